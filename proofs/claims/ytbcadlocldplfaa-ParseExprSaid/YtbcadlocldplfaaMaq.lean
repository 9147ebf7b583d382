/- The contract of the document's Whole and Expr. And what follows from it. -/
import Derived.Test.YtbcadlocldplfaaMai
import Derived.Test.YtbcadlocldplfaaMal
import Derived.Test.YtbcadlocldplfaaMan
import Derived.Test.YtbcadlocldplfaaMap
set_option linter.unusedSimpArgs false
set_option linter.unusedVariables false
namespace Go.Proofs.Ytbcadlocldplfaa
open Go.RowKit

set_option maxRecDepth 100000 in
set_option maxHeartbeats 16000000 in
theorem dwhole_any (n : Nat) (fl : Bool) (s : List UInt8) (hs : s.length ≤ 100000) (hne : readF n fl ((srcL s).1.map zOf) ≠ .out) (w : World) :
    Calls Try.prog 13 #[.string ⟨s.toArray⟩, .bool fl] w (TrePost w (srcT n fl s)) := by
  obtain ⟨hz, hg, hln⟩ := src_z hs
  have HA := Lib.hid (fun W => refAll_any s hs W)
  obtain ⟨st, hst⟩ : ∃ st : ByteArray, st = ⟨s.toArray⟩ := ⟨_, rfl⟩
  have hsz : st.size = s.length := by rw [hst]; rfl
  rw [← hst] at HA ⊢
  obtain ⟨sz, hsz2⟩ : ∃ z, z = s.length := ⟨_, rfl⟩
  rw [← hsz2] at hsz
  obtain ⟨R, hR⟩ : ∃ R, R = srcT n fl s := ⟨_, rfl⟩
  have he : R = if (srcL s).2.2 = 0 then endT sz (readF n fl ((srcL s).1.map zOf)) else ([], (srcL s).2.1, ((srcL s).2.2 : Nat)) := by rw [hR, hsz2]; rfl
  rw [← hR]
  clear hR hst hsz2
  obtain ⟨toks, hlt⟩ : ∃ z, z = (srcL s).1 := ⟨_, rfl⟩
  obtain ⟨q, hq⟩ : ∃ z, z = (srcL s).2.1 := ⟨_, rfl⟩
  obtain ⟨er, her⟩ : ∃ z, z = (srcL s).2.2 := ⟨_, rfl⟩
  rw [← hlt, ← hq, ← her] at he
  rw [← hlt] at hz hg hln hne
  unfold AllPost at HA
  rw [← hlt, ← hq, ← her] at HA
  obtain ⟨L, hL⟩ : ∃ z, z = toks.map zOf := ⟨_, rfl⟩
  have hll : toks.length = L.length := by rw [hL, List.length_map]
  rw [hll] at HA
  rw [← hL] at he hz hg hln hne
  have HLL := Lib.hid hL
  have HE := Lib.hid he
  have HZ := Lib.hid hz
  have HG := Lib.hid hg
  have HN := Lib.hid hne
  obtain ⟨ln, hlnn⟩ : ∃ z, z = L.length := ⟨_, rfl⟩
  have HLN := Lib.hid hlnn
  rw [← hlnn] at hln HA
  clear hlt hq her he hz hg hL hll hlnn hne
  go_enter Try.func13, Try.ntmps13
  go_wp2_with fail
  refine (HA.out w).mono ?_
  rintro e w1 ⟨A, c, rfl, ho, hb⟩
  have HO := Lib.hid ho
  have HB := Lib.hid hb
  clear ho hb HA
  try dsimp only at HO
  by_cases her : er = 0
  · have d0 : ((er : Int) != 0) = false := by simp [her]
    have he := HE.out
    rw [if_pos her] at he
    have HE := Lib.hid he
    clear he her
    have HO2 : Hid (RdZ w1 A L) := Lib.hid (by
      have h1 := HO.out
      have h2 := rdz_own (l := toks) h1 (by rw [← HLL.out, HLN.out])
      rw [HLL.out]
      exact h2)
    obtain ⟨h, hh⟩ : ∃ b, b = w1.heap.size := ⟨_, rfl⟩
    have HW2 : Hid (StD (w1.alloc (.cells #[.slice A ln c, .int .i64 0, .bool false, .bool false] 63)) h L L false false ∧ Below w.heap.size w (w1.alloc (.cells #[.slice A ln c, .int .i64 0, .bool false, .bool false] 63)) ∧ w.heap.size ≤ h ∧ RdZ (w1.alloc (.cells #[.slice A ln c, .int .i64 0, .bool false, .bool false] 63)) A L ∧ (∀ a, A = some a → a.block < h)) := Lib.hid (by
      have hbl : ∀ a, A = some a → a.block < h := fun a ha => by
        subst ha
        rw [hh]
        exact (World.ownsRow.lt HO.out a.block rfl).2
      have hal : Below w1.heap.size w1 (w1.alloc (.cells #[.slice A ln c, .int .i64 0, .bool false, .bool false] 63)) := (Below.refl _ _).alloc (Nat.le_refl _) _
      have hrz : RdZ (w1.alloc (.cells #[.slice A ln c, .int .i64 0, .bool false, .bool false] 63)) A L := HO2.out.below hal
      refine ⟨⟨A, c, 0, ?_, hrz, rfl, Nat.zero_le _, by rw [← HLN.out]; omega, hbl⟩, HB.out.alloc HB.out.size _, by rw [hh]; exact HB.out.size, hrz, hbl⟩
      have h5 := Blk.new w1 63 #[.slice A ln c, .int .i64 0, .bool false, .bool false]
      rw [← hh] at h5
      have e9 : (#[.slice A ln c, .int .i64 0, .bool false, .bool false] : Array Value) = #[.slice A L.length c, .int .i64 ((0 : Nat) : Int), .bool false, .bool false] := by rw [HLN.out]; rfl
      rw [← e9]
      exact h5)
    have HBF : Hid (∀ W2 : World, StD W2 h L L false false → Calls Try.prog (if fl then 27 else 28) #[gp h] W2 (DPost W2 h L false (readF n fl L))) := Lib.hid (fun W2 h2 => by
      cases fl with
      | true => exact dflow_any HG.out n h L false false W2 h2 (fun _ => HN.out)
      | false => exact dexpr_any (ntd_ok HG.out n) h L false false W2 h2 (fun _ => HN.out))
    have HCALL : Hid (Calls Try.prog (if fl then 27 else 28) #[gp h] (w1.alloc (.cells #[.slice A ln c, .int .i64 0, .bool false, .bool false] 63)) (DPost (w1.alloc (.cells #[.slice A ln c, .int .i64 0, .bool false, .bool false] 63)) h L false (readF n fl L))) := Lib.hid (HBF.out _ HW2.out.1)
    clear HO HO2 HB HBF
    have hfl : fl = true ∨ fl = false := by cases fl <;> simp
    rcases hfl with rfl | rfl
    · go_upto_region 5 with fail
      rw [← hh]
      clear hh
      generalize w1.alloc (.cells #[.slice A ln c, .int .i64 0, .bool false, .bool false] 63) = w2 at *
      go_wp2_with fail
      refine HCALL.out.mono ?_
      rintro e w3 ⟨t, l, b, m, A3, n3, c3, rfl, htl, ho, hs3, hsy⟩
      have HT := Lib.hid htl
      have HO := Lib.hid ho
      have HS := Lib.hid hs3
      have HSY := Lib.hid hsy
      have k2 := hs3.rd.bad_cell
      have HRZ : Hid (RdZ w3 A L) := Lib.hid (HW2.out.2.2.2.1.chg hs3.chg (fun a ha _ hk => Nat.ne_of_lt (HW2.out.2.2.2.2 a ha) hk))
      have HBW : Hid (Below w.heap.size w w3) := Lib.hid (Chg.below HW2.out.2.1 hs3.chg (HW2.out.2.1.size) (fun k hk => by have hk2 : k = h := hk; rw [hk2]; exact HW2.out.2.2.1))
      obtain ⟨i, k0, k3, hi⟩ : ∃ i : Nat, w3.cell? ⟨h, 1, none⟩ = some (.int .i64 (i : Nat)) ∧ w3.cell? ⟨h, 3, none⟩ = some (.bool (false || m)) ∧ l = L.drop i ∧ i ≤ L.length := by
        obtain ⟨A9, c9, i, h1, h2, h3, h4, h5, h6⟩ := hs3.rd
        exact ⟨i, h1.cell 1, h1.cell 3, h3, h4⟩
      have HI := Lib.hid hi
      clear htl ho hs3 hsy hi HCALL
      have HMT : Hid (Od w w3 A3 n3 c3 t) := Lib.hid ⟨HO.out.len, own_mono HO.out.own HW2.out.2.1.size⟩
      have FAULT : Hid (∀ x r, l = x :: r → ∃ bk off, A = some ⟨bk, off, none⟩ ∧ i < ln ∧ w3.cell? ⟨bk, off + i * 4 + 3, none⟩ = some (.int .i64 (x.at_ : Nat))) := Lib.hid (fun x r hl => by
        have hx : L[i]? = some x := by
          have h9 := HI.out.1
          rw [hl] at h9
          have := congrArg (·[0]?) h9
          simp only [List.getElem?_cons_zero, List.getElem?_drop, Nat.add_zero] at this
          exact this.symm
        have hlt := (List.getElem?_eq_some_iff.1 hx).1
        rcases HRZ.out with h7 | ⟨bk, off, hA, _, hat⟩
        · rw [h7] at hlt; cases hlt
        · exact ⟨bk, off, hA, by rw [HLN.out]; exact hlt, hat i x hx 3 _ rfl⟩)
      have HIL : Hid (i + l.length = ln) := Lib.hid (by rw [HI.out.1, List.length_drop, HLN.out]; have := HI.out.2; omega)
      clear HW2
      cases b with
      | true =>
        have HR : Hid (R = ([], (faultAt sz l).1, (((faultAt sz l).2 : Nat) : Int))) := Lib.hid (by
          rcases HSY.out with ⟨e1, e2⟩ | ⟨e1, e2⟩
          · rw [HE.out, e2]; rfl
          · cases e1)
        cases l with
        | nil =>
          have dge : decide ((i : Int) ≥ (ln : Int)) = true := decide_eq_true (by have := HIL.out; simp at this; omega)
          have dge2 : ln ≤ i := by have := HIL.out; simp at this; omega
          have dge3 : decide (ln ≤ i) = true := decide_eq_true dge2
          have dge4 : decide ((ln : Int) ≤ (i : Int)) = true := decide_eq_true (by omega)
          go_wp2_with fail
          go_ret3
          rw [HR.out]
          exact ⟨none, 0, 0, rfl, Od.nil _ _, by simp, HBW.out⟩
        | cons x r =>
          obtain ⟨bk, off, hA, hin, cx⟩ := FAULT.out x r rfl
          subst hA
          have dge : decide ((i : Int) ≥ (ln : Int)) = false := decide_eq_false (by omega)
          have i0 : (0 : Int) ≤ (i : Int) := by omega
          have i1 : (i : Int) < (ln : Int) := by omega
          clear hin
          go_wp2_with fail
          go_quiet (fail)
          go_wp2_with fail
          go_ret3
          rw [HR.out]
          exact ⟨none, 0, 0, rfl, Od.nil _ _, by simp, below_drewN HBW.out _⟩
      | false =>
        cases l with
        | cons x r =>
          have HR : Hid (R = ([], (faultAt sz (x :: r)).1, (((faultAt sz (x :: r)).2 : Nat) : Int))) := Lib.hid (by
            rcases HSY.out with ⟨e1, e2⟩ | ⟨e1, e2⟩
            · cases e1
            · rw [HE.out, e2]; rfl)
          obtain ⟨bk, off, hA, hin, cx⟩ := FAULT.out x r rfl
          subst hA
          have dlt : decide ((i : Int) < (ln : Int)) = true := decide_eq_true (by omega)
          have dge : decide ((i : Int) ≥ (ln : Int)) = false := decide_eq_false (by omega)
          have i0 : (0 : Int) ≤ (i : Int) := by omega
          have i1 : (i : Int) < (ln : Int) := by omega
          clear hin
          go_wp2_with fail
          go_quiet (fail)
          go_wp2_with fail
          go_ret3
          rw [HR.out]
          exact ⟨none, 0, 0, rfl, Od.nil _ _, by simp, below_drewN HBW.out _⟩
        | nil =>
          have dlt : decide ((i : Int) < (ln : Int)) = false := decide_eq_false (by have := HIL.out; simp at this; omega)
          have dlt2 : ¬ i < ln := by have := HIL.out; simp at this; omega
          have HR : Hid (R = if m || decide ((T8.chk t).2 ≠ 0) then ([], 0, 2) else (t, 0, 0)) := Lib.hid (by
            rcases HSY.out with ⟨e1, e2⟩ | ⟨e1, e2⟩
            · cases e1
            · rw [HE.out, e2]; rfl)
          have HTB : Hid (TB t) := Lib.hid (by
            rcases HSY.out with ⟨e1, e2⟩ | ⟨e1, e2⟩
            · cases e1
            · exact (readF_bd n _ L t [] m HZ.out (by rw [← HLN.out]; omega) e2).1)
          have HCK := Lib.hid (T8.refCheck_any A3 c3 t w3 (twok_of HTB.out) (rdw_of HO.out.rd) (by have := HT.out; omega))
          have HNL := Lib.hid HO.out.len
          rw [← HNL.out] at HCK
          obtain ⟨ck, hck⟩ : ∃ z, z = (T8.chk t).2 := ⟨_, rfl⟩
          rw [← hck] at HR HCK
          have HCK2 := Lib.hid (HCK.out)
          clear hck
          go_wp2_with fail
          refine HCK2.out.mono ?_
          rintro e w4 ⟨⟨z, rfl⟩, hb4⟩
          have HB4 := Lib.hid (And.intro (HBW.out.trans (hb4.mono HBW.out.size)) (show Od w w4 A3 n3 c3 t from ⟨HMT.out.len, own_below HMT.out.own hb4⟩))
          have k3' : w4.cell? ⟨h, 3, none⟩ = some (.bool (false || m)) := (hb4.cell (p := ⟨h, 3, none⟩) HS.out.rd.lt).trans k3
          clear hb4 k3
          cases m with
          | true =>
            have HR2 : Hid (R = ([], 0, 2)) := Lib.hid (by rw [HR.out]; rfl)
            go_wp2_with fail
            go_ret3
            rw [HR2.out]
            exact ⟨none, 0, 0, rfl, Od.nil _ _, by simp, HB4.out.1⟩
          | false =>
            by_cases h0 : ck = 0
            · have d4 : (ck != 0) = false := by simp [h0]
              have HR2 : Hid (R = (t, 0, 0)) := Lib.hid (by rw [HR.out, h0]; rfl)
              clear h0
              go_wp2_with fail
              go_ret3
              rw [HR2.out]
              exact ⟨A3, n3, c3, rfl, HB4.out.2, HT.out, HB4.out.1⟩
            · have d4 : (ck != 0) = true := by simpa using h0
              have HR2 : Hid (R = ([], 0, 2)) := Lib.hid (by rw [HR.out, decide_eq_true h0]; rfl)
              clear h0
              go_wp2_with fail
              go_ret3
              rw [HR2.out]
              exact ⟨none, 0, 0, rfl, Od.nil _ _, by simp, HB4.out.1⟩
    · go_upto_region 5 with fail
      rw [← hh]
      clear hh
      generalize w1.alloc (.cells #[.slice A ln c, .int .i64 0, .bool false, .bool false] 63) = w2 at *
      go_wp2_with fail
      refine HCALL.out.mono ?_
      rintro e w3 ⟨t, l, b, m, A3, n3, c3, rfl, htl, ho, hs3, hsy⟩
      have HT := Lib.hid htl
      have HO := Lib.hid ho
      have HS := Lib.hid hs3
      have HSY := Lib.hid hsy
      have k2 := hs3.rd.bad_cell
      have HRZ : Hid (RdZ w3 A L) := Lib.hid (HW2.out.2.2.2.1.chg hs3.chg (fun a ha _ hk => Nat.ne_of_lt (HW2.out.2.2.2.2 a ha) hk))
      have HBW : Hid (Below w.heap.size w w3) := Lib.hid (Chg.below HW2.out.2.1 hs3.chg (HW2.out.2.1.size) (fun k hk => by have hk2 : k = h := hk; rw [hk2]; exact HW2.out.2.2.1))
      obtain ⟨i, k0, k3, hi⟩ : ∃ i : Nat, w3.cell? ⟨h, 1, none⟩ = some (.int .i64 (i : Nat)) ∧ w3.cell? ⟨h, 3, none⟩ = some (.bool (false || m)) ∧ l = L.drop i ∧ i ≤ L.length := by
        obtain ⟨A9, c9, i, h1, h2, h3, h4, h5, h6⟩ := hs3.rd
        exact ⟨i, h1.cell 1, h1.cell 3, h3, h4⟩
      have HI := Lib.hid hi
      clear htl ho hs3 hsy hi HCALL
      have HMT : Hid (Od w w3 A3 n3 c3 t) := Lib.hid ⟨HO.out.len, own_mono HO.out.own HW2.out.2.1.size⟩
      have FAULT : Hid (∀ x r, l = x :: r → ∃ bk off, A = some ⟨bk, off, none⟩ ∧ i < ln ∧ w3.cell? ⟨bk, off + i * 4 + 3, none⟩ = some (.int .i64 (x.at_ : Nat))) := Lib.hid (fun x r hl => by
        have hx : L[i]? = some x := by
          have h9 := HI.out.1
          rw [hl] at h9
          have := congrArg (·[0]?) h9
          simp only [List.getElem?_cons_zero, List.getElem?_drop, Nat.add_zero] at this
          exact this.symm
        have hlt := (List.getElem?_eq_some_iff.1 hx).1
        rcases HRZ.out with h7 | ⟨bk, off, hA, _, hat⟩
        · rw [h7] at hlt; cases hlt
        · exact ⟨bk, off, hA, by rw [HLN.out]; exact hlt, hat i x hx 3 _ rfl⟩)
      have HIL : Hid (i + l.length = ln) := Lib.hid (by rw [HI.out.1, List.length_drop, HLN.out]; have := HI.out.2; omega)
      clear HW2
      cases b with
      | true =>
        have HR : Hid (R = ([], (faultAt sz l).1, (((faultAt sz l).2 : Nat) : Int))) := Lib.hid (by
          rcases HSY.out with ⟨e1, e2⟩ | ⟨e1, e2⟩
          · rw [HE.out, e2]; rfl
          · cases e1)
        cases l with
        | nil =>
          have dge : decide ((i : Int) ≥ (ln : Int)) = true := decide_eq_true (by have := HIL.out; simp at this; omega)
          have dge2 : ln ≤ i := by have := HIL.out; simp at this; omega
          have dge3 : decide (ln ≤ i) = true := decide_eq_true dge2
          have dge4 : decide ((ln : Int) ≤ (i : Int)) = true := decide_eq_true (by omega)
          go_wp2_with fail
          go_ret3
          rw [HR.out]
          exact ⟨none, 0, 0, rfl, Od.nil _ _, by simp, HBW.out⟩
        | cons x r =>
          obtain ⟨bk, off, hA, hin, cx⟩ := FAULT.out x r rfl
          subst hA
          have dge : decide ((i : Int) ≥ (ln : Int)) = false := decide_eq_false (by omega)
          have i0 : (0 : Int) ≤ (i : Int) := by omega
          have i1 : (i : Int) < (ln : Int) := by omega
          clear hin
          go_wp2_with fail
          go_quiet (fail)
          go_wp2_with fail
          go_ret3
          rw [HR.out]
          exact ⟨none, 0, 0, rfl, Od.nil _ _, by simp, below_drewN HBW.out _⟩
      | false =>
        cases l with
        | cons x r =>
          have HR : Hid (R = ([], (faultAt sz (x :: r)).1, (((faultAt sz (x :: r)).2 : Nat) : Int))) := Lib.hid (by
            rcases HSY.out with ⟨e1, e2⟩ | ⟨e1, e2⟩
            · cases e1
            · rw [HE.out, e2]; rfl)
          obtain ⟨bk, off, hA, hin, cx⟩ := FAULT.out x r rfl
          subst hA
          have dlt : decide ((i : Int) < (ln : Int)) = true := decide_eq_true (by omega)
          have dge : decide ((i : Int) ≥ (ln : Int)) = false := decide_eq_false (by omega)
          have i0 : (0 : Int) ≤ (i : Int) := by omega
          have i1 : (i : Int) < (ln : Int) := by omega
          clear hin
          go_wp2_with fail
          go_quiet (fail)
          go_wp2_with fail
          go_ret3
          rw [HR.out]
          exact ⟨none, 0, 0, rfl, Od.nil _ _, by simp, below_drewN HBW.out _⟩
        | nil =>
          have dlt : decide ((i : Int) < (ln : Int)) = false := decide_eq_false (by have := HIL.out; simp at this; omega)
          have dlt2 : ¬ i < ln := by have := HIL.out; simp at this; omega
          have HR : Hid (R = if m || decide ((T8.chk t).2 ≠ 0) then ([], 0, 2) else (t, 0, 0)) := Lib.hid (by
            rcases HSY.out with ⟨e1, e2⟩ | ⟨e1, e2⟩
            · cases e1
            · rw [HE.out, e2]; rfl)
          have HTB : Hid (TB t) := Lib.hid (by
            rcases HSY.out with ⟨e1, e2⟩ | ⟨e1, e2⟩
            · cases e1
            · exact (readF_bd n _ L t [] m HZ.out (by rw [← HLN.out]; omega) e2).1)
          have HCK := Lib.hid (T8.refCheck_any A3 c3 t w3 (twok_of HTB.out) (rdw_of HO.out.rd) (by have := HT.out; omega))
          have HNL := Lib.hid HO.out.len
          rw [← HNL.out] at HCK
          obtain ⟨ck, hck⟩ : ∃ z, z = (T8.chk t).2 := ⟨_, rfl⟩
          rw [← hck] at HR HCK
          have HCK2 := Lib.hid (HCK.out)
          clear hck
          go_wp2_with fail
          refine HCK2.out.mono ?_
          rintro e w4 ⟨⟨z, rfl⟩, hb4⟩
          have HB4 := Lib.hid (And.intro (HBW.out.trans (hb4.mono HBW.out.size)) (show Od w w4 A3 n3 c3 t from ⟨HMT.out.len, own_below HMT.out.own hb4⟩))
          have k3' : w4.cell? ⟨h, 3, none⟩ = some (.bool (false || m)) := (hb4.cell (p := ⟨h, 3, none⟩) HS.out.rd.lt).trans k3
          clear hb4 k3
          cases m with
          | true =>
            have HR2 : Hid (R = ([], 0, 2)) := Lib.hid (by rw [HR.out]; rfl)
            go_wp2_with fail
            go_ret3
            rw [HR2.out]
            exact ⟨none, 0, 0, rfl, Od.nil _ _, by simp, HB4.out.1⟩
          | false =>
            by_cases h0 : ck = 0
            · have d4 : (ck != 0) = false := by simp [h0]
              have HR2 : Hid (R = (t, 0, 0)) := Lib.hid (by rw [HR.out, h0]; rfl)
              clear h0
              go_wp2_with fail
              go_ret3
              rw [HR2.out]
              exact ⟨A3, n3, c3, rfl, HB4.out.2, HT.out, HB4.out.1⟩
            · have d4 : (ck != 0) = true := by simpa using h0
              have HR2 : Hid (R = ([], 0, 2)) := Lib.hid (by rw [HR.out, decide_eq_true h0]; rfl)
              clear h0
              go_wp2_with fail
              go_ret3
              rw [HR2.out]
              exact ⟨none, 0, 0, rfl, Od.nil _ _, by simp, HB4.out.1⟩
  · have d0 : ((er : Int) != 0) = true := by simpa using her
    have HR : Hid (R = ([], q, ((er : Nat) : Int))) := Lib.hid (by rw [HE.out, if_neg her])
    clear her
    go_wp2_with fail
    go_ret3
    rw [HR.out]
    exact ⟨none, 0, 0, rfl, Od.nil _ _, by simp, HB.out⟩
set_option maxRecDepth 100000 in
theorem dExpr_any (n : Nat) (s : List UInt8) (hs : s.length ≤ 100000) (hne : readF n false ((srcL s).1.map zOf) ≠ .out) (w : World) :
    Calls Try.prog 6 #[.string ⟨s.toArray⟩] w (TrePost w (srcT n false s)) := by
  have HC := Lib.hid (dwhole_any n false s hs hne w)
  obtain ⟨st, hst⟩ : ∃ st : ByteArray, st = ⟨s.toArray⟩ := ⟨_, rfl⟩
  rw [← hst] at HC ⊢
  generalize srcT n false s = R at *
  obtain ⟨t, q, er⟩ := R
  clear hst hne hs
  go_enter Try.func6, Try.ntmps6
  go_wp2_with fail
  refine HC.out.mono ?_
  rintro e w1 ⟨A, n1, c, rfl, ho, hl, hb⟩
  have HP := Lib.hid (And.intro ho (And.intro hl hb))
  clear ho hl hb
  dsimp only at HP
  go_wp2_with fail
  go_ret3
  exact ⟨A, n1, c, rfl, HP.out⟩
end Go.Proofs.Ytbcadlocldplfaa
namespace Go.Proofs.Ytbcadlocldplfaa
open Go.RowKit

set_option maxRecDepth 100000 in
set_option maxHeartbeats 8000000 in
theorem parseExpr_walk (st : ByteArray) (w0 : st.size ≤ maxLen) (w : World) :
    Calls Try.prog 3 #[.string st] w fun e w' => e = .returned (.bool true) ∧ Below w.heap.size w w' := by
  obtain ⟨s, hs⟩ : ∃ s : List UInt8, st = ⟨s.toArray⟩ := ⟨st.data.toList, by cases st; rfl⟩
  obtain ⟨n, hn⟩ : ∃ n, n = st.size := ⟨_, rfl⟩
  have hsz : st.size = n := hn.symm
  have hsn : s.length = n := by rw [hn, hs]; rfl
  have hn9 : n ≤ 9223372036854775807 := by unfold maxLen at w0; omega
  by_cases hlong : 20000 < n
  · obtain ⟨s1, hs1e⟩ : ∃ z, z = s.take 20000 := ⟨_, rfl⟩
    have hs1 : s1.length ≤ 100000 := by rw [hs1e, List.length_take]; omega
    have hex : st.extract 0 20000 = ⟨s1.toArray⟩ := by rw [hs, hs1e]; exact take_ext s 20000
    have hd : decide ((20000 : Int) < (n : Int)) = true := decide_eq_true (by omega)
    have hd2 : (20000 : Nat) ≤ n := by omega
    have hd3 : ((20000 : Nat) : Int) ≤ (n : Int) := by omega
    clear hs1e hs hn w0 hsn
    have H5 := Lib.hid (expr5_any N0 s1 hs1 (readF_ne false hs1) w)
    have H6 := Lib.hid (fun W => dExpr_any N0 s1 hs1 (readF_ne false hs1) W)
    obtain ⟨R, hR⟩ : ∃ R, R = srcT N0 false s1 := ⟨_, rfl⟩
    rw [← hR] at H5 H6
    obtain ⟨t, q, er⟩ := R
    obtain ⟨st1, hst1⟩ : ∃ z : ByteArray, z = ⟨s1.toArray⟩ := ⟨_, rfl⟩
    rw [← hst1] at H5 H6
    rw [← hst1] at hex
    have HW := Lib.hid (fun W => wakes8_any W)
    have hq : ((q : Int) == (q : Int)) = true := beq_self_eq_true _
    have her : (er == er) = true := beq_self_eq_true _
    clear hR hst1 hs1
    go_enter Try.func3, Try.ntmps3
    go_wp2_with fail
    refine H5.out.mono ?_
    rintro e w1 ⟨A, n1, c1, rfl, ho1, hl1, hb1⟩
    have HO1 := Lib.hid ho1
    have HL1 := Lib.hid hl1
    have HB1 := Lib.hid hb1
    clear ho1 hl1 hb1
    dsimp only at HO1 HL1
    go_wp2_with fail
    refine (H6.out w1).mono ?_
    rintro e w2 ⟨A2, n2, c2, rfl, ho2, hl2, hb2⟩
    have hn : n2 = n1 := ho2.len.trans HO1.out.len.symm
    subst hn
    have HO2 := Lib.hid ho2
    have HB2 := Lib.hid (HB1.out.trans (hb2.mono HB1.out.size))
    have HAL := Lib.hid (T8.alike_same A A2 c1 c2 n2 t w2 (rdw_of (HO1.out.rd.below hb2)) (rdw_of HO2.out.rd) HO1.out.len (by have := HO1.out.len; have := HL1.out; omega))
    clear ho2 hl2 hb2
    go_wp2_with fail
    refine HAL.out.mono ?_
    rintro e w3 ⟨rfl, z, hw3⟩
    rw [hw3]
    clear hw3 w3
    have HB3 := Lib.hid (below_drewN HB2.out z)
    go_wp2_with fail
    refine (HW.out _).mono ?_
    rintro e w4 ⟨rfl, hb4⟩
    have HB4 := Lib.hid (HB3.out.trans (hb4.mono HB3.out.size))
    clear hb4
    go_wp2_with fail
    go_ret
    exact ⟨rfl, HB4.out⟩
  · have hs1 : s.length ≤ 100000 := by omega
    have hd : decide ((20000 : Int) < (n : Int)) = false := decide_eq_false (by omega)
    obtain ⟨s1, hs1e⟩ : ∃ z, z = s := ⟨_, rfl⟩
    rw [← hs1e] at hs1
    have hex : st = ⟨s1.toArray⟩ := by rw [hs, hs1e]
    clear hs1e hs hn w0 hsn
    have H5 := Lib.hid (expr5_any N0 s1 hs1 (readF_ne false hs1) w)
    have H6 := Lib.hid (fun W => dExpr_any N0 s1 hs1 (readF_ne false hs1) W)
    obtain ⟨R, hR⟩ : ∃ R, R = srcT N0 false s1 := ⟨_, rfl⟩
    rw [← hR] at H5 H6
    obtain ⟨t, q, er⟩ := R
    obtain ⟨st1, hst1⟩ : ∃ z : ByteArray, z = ⟨s1.toArray⟩ := ⟨_, rfl⟩
    rw [← hst1] at H5 H6
    rw [← hst1] at hex
    subst hex
    have HW := Lib.hid (fun W => wakes8_any W)
    have hq : ((q : Int) == (q : Int)) = true := beq_self_eq_true _
    have her : (er == er) = true := beq_self_eq_true _
    clear hR hst1 hs1
    go_enter Try.func3, Try.ntmps3
    go_wp2_with fail
    refine H5.out.mono ?_
    rintro e w1 ⟨A, n1, c1, rfl, ho1, hl1, hb1⟩
    have HO1 := Lib.hid ho1
    have HL1 := Lib.hid hl1
    have HB1 := Lib.hid hb1
    clear ho1 hl1 hb1
    dsimp only at HO1 HL1
    go_wp2_with fail
    refine (H6.out w1).mono ?_
    rintro e w2 ⟨A2, n2, c2, rfl, ho2, hl2, hb2⟩
    have hn : n2 = n1 := ho2.len.trans HO1.out.len.symm
    subst hn
    have HO2 := Lib.hid ho2
    have HB2 := Lib.hid (HB1.out.trans (hb2.mono HB1.out.size))
    have HAL := Lib.hid (T8.alike_same A A2 c1 c2 n2 t w2 (rdw_of (HO1.out.rd.below hb2)) (rdw_of HO2.out.rd) HO1.out.len (by have := HO1.out.len; have := HL1.out; omega))
    clear ho2 hl2 hb2
    go_wp2_with fail
    refine HAL.out.mono ?_
    rintro e w3 ⟨rfl, z, hw3⟩
    rw [hw3]
    clear hw3 w3
    have HB3 := Lib.hid (below_drewN HB2.out z)
    go_wp2_with fail
    refine (HW.out _).mono ?_
    rintro e w4 ⟨rfl, hb4⟩
    have HB4 := Lib.hid (HB3.out.trans (hb4.mono HB3.out.size))
    clear hb4
    go_wp2_with fail
    go_ret
    exact ⟨rfl, HB4.out⟩
end Go.Proofs.Ytbcadlocldplfaa
