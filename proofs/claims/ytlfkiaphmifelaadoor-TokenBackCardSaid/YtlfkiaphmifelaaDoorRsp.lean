/- Contract of the document's Spell. -/
import Derived.Outline
import Derived.Deep.DeepCutAuto
import Derived.Deep.MidRow
import Derived.Test.YtlfkiaphmifelaaDoorSpw
import Derived.Test.YtlfkiaphmifelaaDoorMay
import Derived.Test.YtlfkiaphmifelaaDoorDgt
namespace Go.Proofs.YtlfkiaphmifelaaDoor
open Go.RowKit

theorem spF_app (f : Bool) (l m : List Tz) : spF f (l ++ m) = spF f l ++ spF (f || !l.isEmpty) m := by
  induction l generalizing f with
  | nil => simp [spF]
  | cons x l ih => rw [List.cons_append, spF, ih true, spF]; simp
theorem spF_pre (l : List Tz) (k : Nat) : (spF false (l.take k)).length ≤ (spF false l).length := by
  have h := spF_app false (l.take k) (l.drop k)
  rw [List.take_append_drop] at h
  rw [h, List.length_append]
  omega
set_option maxRecDepth 100000 in
set_option maxHeartbeats 16000000 in
theorem rspell_any (A : Option Addr) (c : Nat) (l : List Tz) (w : World) (hrd : RdZ w A l) (hlen : l.length ≤ 10000) (hok : ∀ x ∈ l, TzOk x) :
    Calls Tryd.prog 7 #[.slice A l.length c] w (SpellPost w l) := by
  obtain ⟨i0, hi0, hz0, hz1, hz2⟩ := info_parts Tryd.info5
  have HI := Lib.hid (And.intro hi0 (And.intro hz0 (And.intro hz1 hz2)))
  clear hi0 hz0 hz1 hz2
  obtain ⟨n, hn⟩ : ∃ n, n = l.length := ⟨_, rfl⟩
  have HH := Lib.hid (And.intro hrd (And.intro hn hok))
  rw [← hn] at hlen ⊢
  clear hrd hn hok
  obtain ⟨Al, hAl⟩ : ∃ Al, Al = A := ⟨_, rfl⟩
  rw [← hAl] at HH ⊢
  clear hAl A
  go_enter Tryd.func7, Tryd.ntmps7
  go_wp2_with fail
  go_loopw [4] (fun s4 wr => ∃ k : Nat, s4 = .int .i64 (k : Nat) ∧ k ≤ n ∧ (l.take k).all rightB = true ∧ Below w.heap.size w wr) (fun s4 _ => n - (intOf s4).toNat)
  case atStart => exact ⟨0, rfl, by omega, rfl, Below.refl _ _⟩
  case round =>
    obtain ⟨k, rfl, hk, hall, hb⟩ := hrel
    have HALL := Lib.hid hall
    have HB := Lib.hid hb
    clear hall hb
    by_cases hlt : k < n
    · have di : decide ((k : Int) < (n : Int)) = true := decide_eq_true (by omega)
      obtain ⟨x0, hx⟩ : ∃ x, l[k]? = some x := ⟨_, List.getElem?_eq_getElem (by have := HH.out.2.1; omega)⟩
      obtain ⟨bb, off, hA, _, hcell⟩ := toks_at (HH.out.1.below HB.out) hx
      subst hA
      have HOK : Hid (TzOk x0) := Lib.hid (HH.out.2.2 _ (List.mem_of_getElem? hx))
      have HTK : Hid (l.take (k + 1) = l.take k ++ [x0]) := Lib.hid (by rw [List.take_add_one, hx]; rfl)
      have HMEM : Hid (x0 ∈ l) := Lib.hid (List.mem_of_getElem? hx)
      have HRG : Hid (wr.rangeAt bb (off + k * 4) (zcell x0)) := Lib.hid (fun jj u hu => hcell jj u hu)
      clear hx hcell
      obtain ⟨x, hxe⟩ : ∃ x, x = x0 := ⟨_, rfl⟩
      obtain ⟨kd, st, iv, pl⟩ := x
      have HX0 : Hid (x0 = ⟨kd, st, iv, pl⟩) := Lib.hid hxe.symm
      rw [← hxe] at HRG
      clear hxe
      dsimp only [zcell] at HRG
      have n0 : (0 : Int) ≤ (k : Int) := by omega
      have n1 : (k : Int) < (n : Int) := by omega
      have HMY : Hid (Calls Tryd.prog 18 #[.agg #[.int .u8 (kd : Nat), .string st, .int .i64 iv, .int .i64 pl]] wr fun e w' => e = .returned (.bool (rightB x0)) ∧ Below wr.heap.size wr w') := Lib.hid (by
        have := may_any x0 wr HOK.out
        rw [HX0.out] at this ⊢
        exact this)
      obtain ⟨R, hR⟩ : ∃ R, R = rightB x0 := ⟨_, rfl⟩
      have HRR := Lib.hid hR
      rw [← hR] at HMY
      clear hR
      go_wp2_with (first | (refine wpList_load_mid rfl 33 (.tmp 16) rfl bb (off + k * 4) rfl [.int .u8 (kd : Nat), .string st, .int .i64 iv, .int .i64 pl] (.struct _) HRG.out Tryd.underlying33 rfl (by kernel_rfl) ?_) | fail)
      refine HMY.out.mono ?_
      rintro e w2 ⟨rfl, hb2⟩
      have HB2 := Lib.hid (HB.out.trans (hb2.mono HB.out.size))
      clear hb2
      cases R with
      | false =>
        have HF : Hid (spellL l = ([], 3)) := Lib.hid (by
          unfold spellL
          have : l.all rightB = false := by
            rw [List.all_eq_false]
            exact ⟨x0, HMEM.out, by rw [← HRR.out]; decide⟩
          rw [this]; rfl)
        go_wp2_with fail
        go_ret2
        exact ⟨by rw [HF.out]; rfl, HB2.out⟩
      | true =>
        go_wp2_with fail
        go_roundw
        case rel => exact ⟨k + 1, by go_num, by omega, by rw [HTK.out, List.all_append, HALL.out]; simp [← HRR.out], HB2.out⟩
        case measure => simp [intOf]; omega
    · have di : decide ((k : Int) < (n : Int)) = false := decide_eq_false (by omega)
      have HALR : Hid (l.all rightB = true) := Lib.hid (by
        have h := HALL.out
        rw [List.take_of_length_le (by rw [← HH.out.2.1]; omega)] at h
        exact h)
      go_wp2_with fail
      have HB0 := HB
      generalize wr = w0 at *
      clear HB HALL di hlt hk
      go_loopw [6, 5, 7] (fun s6 s5 _ wr => ∃ (k : Nat) (b : List UInt8) (A : Option Addr) (cap : Nat), s6 = .int .i64 (k : Nat) ∧ s5 = .slice A b.length cap ∧ k ≤ n ∧ spF false (l.take k) = b ∧ b.length ≤ 16384 ∧ wr.ownsRow w.heap.size 5 1 (.slice A b.length cap) b.length (bcells b) ∧ Below w.heap.size w wr) (fun s6 _ _ _ => n - (intOf s6).toNat)
      case atStart => exact ⟨0, [], none, 0, rfl, rfl, by omega, rfl, by simp, World.ownsRow_nil _ _ _ _, HB0.out⟩
      case round =>
        clear HB0
        obtain ⟨k, b, A, cap, rfl, rfl, hk, hbd, hbl, ho, hb⟩ := hrel
        have HB := Lib.hid hb
        obtain ⟨m, hm⟩ : ∃ m, m = b.length := ⟨_, rfl⟩
        rw [← hm] at ho hbl ⊢
        have HO := Lib.hid ho
        have HM := Lib.hid hm
        have HBD := Lib.hid hbd
        have HTE : Hid (k < n → (l.take k).isEmpty = decide (k = 0)) := Lib.hid (fun hkn => by
          have : (l.take k).length = k := by rw [List.length_take]; have := HH.out.2.1; omega
          cases hq : l.take k with
          | nil => rw [hq] at this; simp at this; simp [← this]
          | cons y r => rw [hq] at this; simp at this; simp; omega)
        clear hbd hb ho hm
        by_cases hlt : k < n
        · have di : decide ((k : Int) < (n : Int)) = true := decide_eq_true (by omega)
          have HTE' := Lib.hid (HTE.out hlt)
          clear HTE
          have HTE := HTE'
          clear HTE'
          obtain ⟨x0, hx⟩ : ∃ x, l[k]? = some x := ⟨_, List.getElem?_eq_getElem (by have := HH.out.2.1; omega)⟩
          obtain ⟨bb, off, hA, _, hcell⟩ := toks_at (HH.out.1.below HB.out) hx
          subst hA
          have HOK : Hid (TzOk x0) := Lib.hid (HH.out.2.2 _ (List.mem_of_getElem? hx))
          have HTK : Hid (l.take (k + 1) = l.take k ++ [x0]) := Lib.hid (by rw [List.take_add_one, hx]; rfl)
          have HMEM : Hid (x0 ∈ l) := Lib.hid (List.mem_of_getElem? hx)
          have HRG : Hid (wr.rangeAt bb (off + k * 4) (zcell x0)) := Lib.hid (fun jj u hu => hcell jj u hu)
          clear hx hcell
          obtain ⟨x, hxe⟩ : ∃ x, x = x0 := ⟨_, rfl⟩
          obtain ⟨kd, st, iv, pl⟩ := x
          have HX0 : Hid (x0 = ⟨kd, st, iv, pl⟩) := Lib.hid hxe.symm
          rw [← hxe] at HRG
          clear hxe
          dsimp only [zcell] at HRG
          have n0 : (0 : Int) ≤ (k : Int) := by omega
          have n1 : (k : Int) < (n : Int) := by omega
          have HLTW : Hid (bb < w.heap.size) := Lib.hid (by
            rcases HH.out.1 with h | ⟨b', off', e1, e2, _⟩
            · have := HMEM.out; rw [h] at this; cases this
            · injection e1 with e1; injection e1 with e1 e3; rw [e1]; exact e2)
          have HLT : Hid (bb < wr.heap.size) := Lib.hid (Nat.lt_of_lt_of_le HLTW.out HB.out.size)
          by_cases hk0 : k = 0
          · have dk : decide ((k : Int) > 0) = false := decide_eq_false (by omega)
            have dk' : decide (0 < k) = false := decide_eq_false (by omega)
            obtain ⟨b2, hb2⟩ : ∃ z, z = b := ⟨_, rfl⟩
            obtain ⟨A2, hA2⟩ : ∃ z, z = A := ⟨_, rfl⟩
            obtain ⟨cap2, hc2⟩ : ∃ z, z = cap := ⟨_, rfl⟩
            obtain ⟨m2, hm2⟩ : ∃ z, z = m := ⟨_, rfl⟩
            have HB2D : Hid (b2 = b ++ (if false || !(l.take k).isEmpty then [32] else [])) := Lib.hid (by rw [hb2, HTE.out, decide_eq_true hk0]; simp)
            have HM2 : Hid (m2 = b2.length) := Lib.hid (by rw [hm2, hb2]; exact HM.out)
            have hm2l : m2 ≤ 16385 := by omega
            have HO2 : Hid (wr.ownsRow w.heap.size 5 1 (.slice A2 m2 cap2) m2 (bcells b2)) := Lib.hid (by rw [hA2, hm2, hc2, hb2]; exact HO.out)
            have HBX := HB
            have HRG2 := HRG
            rw [← hA2, ← hm2, ← hc2]
            clear hA2 hm2 hc2 hb2 hk0
            go_upto_region 12 with fail
            generalize wr = W at *
            have g1 : W.cell? ⟨bb, off + k * 4 + 1, none⟩ = some (.string st) := HRG2.out 1 _ rfl
            have g0 : W.cell? ⟨bb, off + k * 4, none⟩ = some (.int .u8 (kd : Nat)) := HRG2.out 0 _ rfl
            have g2 : W.cell? ⟨bb, off + k * 4 + 2, none⟩ = some (.int .i64 iv) := HRG2.out 2 _ rfl
            have HRX : Hid (rightB x0 = true) := Lib.hid (List.all_eq_true.1 HALR.out x0 HMEM.out)
            by_cases hk2 : kd = 2
            · have e2 : ((kd : Int) == 2) = true := by simp [hk2]
              have e3 : ((kd : Int) == 3) = false := by simp; omega
              have HIV : Hid (0 ≤ iv ∧ iv ≤ 9223372036854775807) := Lib.hid (by
                have h := HRX.out
                have h2 := HOK.out.i.2
                rw [HX0.out] at h h2
                unfold rightB at h
                dsimp only at h h2
                rw [if_neg (by omega), if_pos hk2, Bool.and_eq_true, decide_eq_true_eq, decide_eq_true_eq] at h
                exact ⟨h.2, h2⟩)
              obtain ⟨xn, hxn⟩ : ∃ z : Nat, iv = (z : Int) := ⟨iv.toNat, by have := HIV.out.1; omega⟩
              have HSP : Hid (spellT x0 = Lib.decDigits xn) := Lib.hid (by
                unfold spellT
                rw [HX0.out]
                dsimp only
                rw [if_pos hk2, hxn]
                unfold Lib.itoa
                rw [if_neg (by omega), Int.toNat_natCast])
              have HXN : Hid (xn ≤ 9223372036854775807) := Lib.hid (by have := HIV.out.2; omega)
              have HSV : Hid ((⟨(Lib.decDigits xn).toArray⟩ : ByteArray).data.toList = spellT x0 ∧ (⟨(Lib.decDigits xn).toArray⟩ : ByteArray).size ≤ 17000) := Lib.hid ⟨by rw [HSP.out], by have := dec_len19 HXN.out; show (Lib.decDigits xn).length ≤ _; omega⟩
              have HCL := Lib.hid (digits_any xn HXN.out W)
              rw [hxn] at g2
              clear hk2
              go_wp2_with fail
              refine HCL.out.mono ?_
              rintro e W3 ⟨rfl, hw3⟩
              have HO23 : Hid (W3.ownsRow w.heap.size 5 1 (.slice A2 m2 cap2) m2 (bcells b2)) := Lib.hid (own_below HO2.out hw3)
              have HBX3 : Hid (Below w.heap.size w W3) := Lib.hid (HBX.out.trans (hw3.mono HBX.out.size))
              have HRG3 : Hid (W3.rangeAt bb (off + k * 4) [.int .u8 (kd : Nat), .string st, .int .i64 iv, .int .i64 pl]) := Lib.hid (fun jj u hu => (World.cell?_of_block (hw3.block _ (Nat.lt_of_lt_of_le HLTW.out HBX.out.size))).trans (HRG2.out jj u hu))
              have g0 : W3.cell? ⟨bb, off + k * 4, none⟩ = some (.int .u8 (kd : Nat)) := HRG3.out 0 _ rfl
              clear hw3 HO2 HBX HRG2 HCL
              have HO2 := HO23
              have HBX := HBX3
              generalize W3 = W at *
              obtain ⟨hi0, hz0, hz1, hz2⟩ := HI.out
              go_upto_region 18 with (at_builtin; refine Lib.wpList_append_own_string _ rfl _ _ 35 9 rfl w.heap.size 5 i0 Tryd.underlying35 Tryd.underlying9 hi0 hz0 hz1 hz2 _ _ _ rfl HO2.out ⟨(Lib.decDigits xn).toArray⟩ rfl (by unfold maxLen; have := HSV.out.2; omega) (by have := HSV.out.2; omega) HBX.out.size ?_; intro v4 W4 ho4 hg4 _; obtain ⟨A4, cap4, rfl, _⟩ := own_form ho4; have HO4 := Lib.hid ho4; have HG4 := Lib.hid hg4; clear ho4 hg4; obtain ⟨m4, hm4⟩ : ∃ z, z = m2 + (⟨(Lib.decDigits xn).toArray⟩ : ByteArray).size := ⟨_, rfl⟩; have HM44 := Lib.hid hm4; rw [← hm4]; clear hm4)
              have HB4 : Hid (Below w.heap.size w W4) := Lib.hid (HBX.out.grown HG4.out HBX.out.size (fun g hg => (World.ownsRow.lt HO2.out g hg).1))
              have HBC : Hid (spF false (l.take (k + 1)) = b2 ++ (⟨(Lib.decDigits xn).toArray⟩ : ByteArray).data.toList) := Lib.hid (by rw [HTK.out, spF_append, HBD.out, ← List.append_assoc, ← HB2D.out, HSV.out.1])
              have HM4 : Hid (m4 = (b2 ++ (⟨(Lib.decDigits xn).toArray⟩ : ByteArray).data.toList).length) := Lib.hid (by rw [HM44.out, List.length_append, HM2.out, Array.length_toList]; rfl)
              have hm45 : m4 ≤ 40000 := by have := HSV.out.2; have := HM44.out; omega
              have HO5 : Hid (W4.ownsRow w.heap.size 5 1 (.slice A4 m4 cap4) m4 (bcells (b2 ++ (⟨(Lib.decDigits xn).toArray⟩ : ByteArray).data.toList))) := Lib.hid (by rw [HM44.out, bcells_append]; exact HO4.out)
              by_cases hbig : 16384 < m4
              · have db : decide ((m4 : Int) > 16384) = true := decide_eq_true (by omega)
                have db' : decide (16384 < m4) = true := decide_eq_true hbig
                have HF : Hid (spellL l = ([], 2)) := Lib.hid (by
                  unfold spellL
                  rw [HALR.out, if_pos rfl, if_pos]
                  have h := spF_pre l (k + 1)
                  rw [HBC.out, ← HM4.out] at h
                  omega)
                go_wp2_with fail
                go_ret2
                exact ⟨by rw [HF.out]; rfl, HB4.out⟩
              · have db : decide ((m4 : Int) > 16384) = false := decide_eq_false (by omega)
                have db' : decide (16384 < m4) = false := decide_eq_false hbig
                go_wp2_with fail
                go_roundw
                case rel => exact ⟨k + 1, b2 ++ (⟨(Lib.decDigits xn).toArray⟩ : ByteArray).data.toList, A4, cap4, by go_num, by rw [← HM4.out], by omega, HBC.out, by rw [← HM4.out]; omega, by rw [← HM4.out]; exact HO5.out, HB4.out⟩
                case measure => simp [intOf]; omega
            · have e2 : ((kd : Int) == 2) = false := by simp; omega
              by_cases hk3 : kd = 3
              · have e3 : ((kd : Int) == 3) = true := by simp [hk3]
                have HSP : Hid (spellT x0 = quoteL st.data.toList) := Lib.hid (by unfold spellT Tz.tx; rw [HX0.out]; dsimp only; rw [if_neg (by omega), if_pos hk3])
                have HTX : Hid (st.data.toList.length ≤ 4095) := Lib.hid (by
                  have h := HRX.out
                  unfold rightB Tz.tx at h
                  rw [HX0.out] at h
                  dsimp only at h
                  rw [if_neg (by omega), if_neg (by omega), if_pos hk3, Bool.and_eq_true, decide_eq_true_eq] at h
                  exact h.1)
                have HSV : Hid ((⟨(quoteL st.data.toList).toArray⟩ : ByteArray).data.toList = spellT x0 ∧ (⟨(quoteL st.data.toList).toArray⟩ : ByteArray).size ≤ 17000) := Lib.hid ⟨by rw [HSP.out], by have := quote_len st.data.toList; have := HTX.out; show (quoteL st.data.toList).length ≤ _; omega⟩
                have HCL : Hid (Calls Tryd.prog 20 #[.string st] W fun e w' => e = .returned (.string ⟨(quoteL st.data.toList).toArray⟩) ∧ Below W.heap.size W w') := Lib.hid (by
                  have := rquoted_any st.data.toList (by have := HTX.out; omega) W
                  simpa using this)
                clear hk3
                go_wp2_with fail
                refine HCL.out.mono ?_
                rintro e W3 ⟨rfl, hw3⟩
                have HO23 : Hid (W3.ownsRow w.heap.size 5 1 (.slice A2 m2 cap2) m2 (bcells b2)) := Lib.hid (own_below HO2.out hw3)
                have HBX3 : Hid (Below w.heap.size w W3) := Lib.hid (HBX.out.trans (hw3.mono HBX.out.size))
                have HRG3 : Hid (W3.rangeAt bb (off + k * 4) [.int .u8 (kd : Nat), .string st, .int .i64 iv, .int .i64 pl]) := Lib.hid (fun jj u hu => (World.cell?_of_block (hw3.block _ (Nat.lt_of_lt_of_le HLTW.out HBX.out.size))).trans (HRG2.out jj u hu))
                have g0 : W3.cell? ⟨bb, off + k * 4, none⟩ = some (.int .u8 (kd : Nat)) := HRG3.out 0 _ rfl
                clear hw3 HO2 HBX HRG2 HCL
                have HO2 := HO23
                have HBX := HBX3
                generalize W3 = W at *
                obtain ⟨hi0, hz0, hz1, hz2⟩ := HI.out
                go_upto_region 18 with (at_builtin; refine Lib.wpList_append_own_string _ rfl _ _ 35 9 rfl w.heap.size 5 i0 Tryd.underlying35 Tryd.underlying9 hi0 hz0 hz1 hz2 _ _ _ rfl HO2.out ⟨(quoteL st.data.toList).toArray⟩ rfl (by unfold maxLen; have := HSV.out.2; omega) (by have := HSV.out.2; omega) HBX.out.size ?_; intro v4 W4 ho4 hg4 _; obtain ⟨A4, cap4, rfl, _⟩ := own_form ho4; have HO4 := Lib.hid ho4; have HG4 := Lib.hid hg4; clear ho4 hg4; obtain ⟨m4, hm4⟩ : ∃ z, z = m2 + (⟨(quoteL st.data.toList).toArray⟩ : ByteArray).size := ⟨_, rfl⟩; have HM44 := Lib.hid hm4; rw [← hm4]; clear hm4)
                have HB4 : Hid (Below w.heap.size w W4) := Lib.hid (HBX.out.grown HG4.out HBX.out.size (fun g hg => (World.ownsRow.lt HO2.out g hg).1))
                have HBC : Hid (spF false (l.take (k + 1)) = b2 ++ (⟨(quoteL st.data.toList).toArray⟩ : ByteArray).data.toList) := Lib.hid (by rw [HTK.out, spF_append, HBD.out, ← List.append_assoc, ← HB2D.out, HSV.out.1])
                have HM4 : Hid (m4 = (b2 ++ (⟨(quoteL st.data.toList).toArray⟩ : ByteArray).data.toList).length) := Lib.hid (by rw [HM44.out, List.length_append, HM2.out, Array.length_toList]; rfl)
                have hm45 : m4 ≤ 40000 := by have := HSV.out.2; have := HM44.out; omega
                have HO5 : Hid (W4.ownsRow w.heap.size 5 1 (.slice A4 m4 cap4) m4 (bcells (b2 ++ (⟨(quoteL st.data.toList).toArray⟩ : ByteArray).data.toList))) := Lib.hid (by rw [HM44.out, bcells_append]; exact HO4.out)
                by_cases hbig : 16384 < m4
                · have db : decide ((m4 : Int) > 16384) = true := decide_eq_true (by omega)
                  have db' : decide (16384 < m4) = true := decide_eq_true hbig
                  have HF : Hid (spellL l = ([], 2)) := Lib.hid (by
                    unfold spellL
                    rw [HALR.out, if_pos rfl, if_pos]
                    have h := spF_pre l (k + 1)
                    rw [HBC.out, ← HM4.out] at h
                    omega)
                  go_wp2_with fail
                  go_ret2
                  exact ⟨by rw [HF.out]; rfl, HB4.out⟩
                · have db : decide ((m4 : Int) > 16384) = false := decide_eq_false (by omega)
                  have db' : decide (16384 < m4) = false := decide_eq_false hbig
                  go_wp2_with fail
                  go_roundw
                  case rel => exact ⟨k + 1, b2 ++ (⟨(quoteL st.data.toList).toArray⟩ : ByteArray).data.toList, A4, cap4, by go_num, by rw [← HM4.out], by omega, HBC.out, by rw [← HM4.out]; omega, by rw [← HM4.out]; exact HO5.out, HB4.out⟩
                  case measure => simp [intOf]; omega
              · have e3 : ((kd : Int) == 3) = false := by simp; omega
                have HSV : Hid (st.data.toList = spellT x0 ∧ st.size ≤ 17000) := Lib.hid (by
                  have h1 : st.data.toList.length ≤ 24 := right_len HRX.out (by rw [HX0.out]; exact hk2) (by rw [HX0.out]; exact hk3) (by rw [HX0.out]; rfl)
                  rw [Array.length_toList] at h1
                  exact ⟨by unfold spellT Tz.tx; rw [HX0.out]; dsimp only; rw [if_neg hk2, if_neg hk3], by show st.data.size ≤ _; omega⟩)
                obtain ⟨hi0, hz0, hz1, hz2⟩ := HI.out
                go_upto_region 18 with (at_builtin; refine Lib.wpList_append_own_string _ rfl _ _ 35 9 rfl w.heap.size 5 i0 Tryd.underlying35 Tryd.underlying9 hi0 hz0 hz1 hz2 _ _ _ rfl HO2.out st rfl (by unfold maxLen; have := HSV.out.2; omega) (by have := HSV.out.2; omega) HBX.out.size ?_; intro v4 W4 ho4 hg4 _; obtain ⟨A4, cap4, rfl, _⟩ := own_form ho4; have HO4 := Lib.hid ho4; have HG4 := Lib.hid hg4; clear ho4 hg4; obtain ⟨m4, hm4⟩ : ∃ z, z = m2 + st.size := ⟨_, rfl⟩; have HM44 := Lib.hid hm4; rw [← hm4]; clear hm4)
                have HB4 : Hid (Below w.heap.size w W4) := Lib.hid (HBX.out.grown HG4.out HBX.out.size (fun g hg => (World.ownsRow.lt HO2.out g hg).1))
                have HBC : Hid (spF false (l.take (k + 1)) = b2 ++ st.data.toList) := Lib.hid (by rw [HTK.out, spF_append, HBD.out, ← List.append_assoc, ← HB2D.out, HSV.out.1])
                have HM4 : Hid (m4 = (b2 ++ st.data.toList).length) := Lib.hid (by rw [HM44.out, List.length_append, HM2.out, Array.length_toList]; rfl)
                have hm45 : m4 ≤ 40000 := by have := HSV.out.2; have := HM44.out; omega
                have HO5 : Hid (W4.ownsRow w.heap.size 5 1 (.slice A4 m4 cap4) m4 (bcells (b2 ++ st.data.toList))) := Lib.hid (by rw [HM44.out, bcells_append]; exact HO4.out)
                by_cases hbig : 16384 < m4
                · have db : decide ((m4 : Int) > 16384) = true := decide_eq_true (by omega)
                  have db' : decide (16384 < m4) = true := decide_eq_true hbig
                  have HF : Hid (spellL l = ([], 2)) := Lib.hid (by
                    unfold spellL
                    rw [HALR.out, if_pos rfl, if_pos]
                    have h := spF_pre l (k + 1)
                    rw [HBC.out, ← HM4.out] at h
                    omega)
                  go_wp2_with fail
                  go_ret2
                  exact ⟨by rw [HF.out]; rfl, HB4.out⟩
                · have db : decide ((m4 : Int) > 16384) = false := decide_eq_false (by omega)
                  have db' : decide (16384 < m4) = false := decide_eq_false hbig
                  go_wp2_with fail
                  go_roundw
                  case rel => exact ⟨k + 1, b2 ++ st.data.toList, A4, cap4, by go_num, by rw [← HM4.out], by omega, HBC.out, by rw [← HM4.out]; omega, by rw [← HM4.out]; exact HO5.out, HB4.out⟩
                  case measure => simp [intOf]; omega
          · have dk : decide ((k : Int) > 0) = true := decide_eq_true (by omega)
            have dk' : decide (0 < k) = true := decide_eq_true (by omega)
            obtain ⟨hi0, hz0, hz1, hz2⟩ := HI.out
            go_upto_region 12 with (at_builtin; refine wpList_append_own _ rfl (.tmp 28) (.tmp 29) 35 rfl w.heap.size 5 i0 (.int .u8 0) 1 1 Tryd.underlying35 hi0 hz0 hz1 hz2 rfl (by decide) (.slice A m cap) m (bcells b) rfl (HO.out.alloc _) ⟨wr.heap.size, 0, none⟩ 1 1 [.int .u8 32] rfl rfl (cells_new _ _ _) (by intro u hu; rw [List.mem_singleton] at hu; subst hu; rfl) (by unfold maxLen; omega) (by omega) (by have := HB.out.size; simp; omega) ?_; intro v3 W ho3 hg3 _; obtain ⟨A2, cap2, rfl, _⟩ := own_form ho3; have HO3 := Lib.hid ho3; have HG3 := Lib.hid hg3; clear ho3 hg3)
            have HBX : Hid (Below w.heap.size w W) := Lib.hid ((HB.out.alloc HB.out.size _).grown HG3.out (by have := HB.out.size; simp; omega) (fun g hg => (World.ownsRow.lt HO.out g hg).1))
            obtain ⟨b2, hb2⟩ : ∃ z, z = b ++ [32] := ⟨_, rfl⟩
            obtain ⟨m2, hm2⟩ : ∃ z, z = m + 1 := ⟨_, rfl⟩
            have HB2D : Hid (b2 = b ++ (if false || !(l.take k).isEmpty then [32] else [])) := Lib.hid (by rw [hb2, HTE.out, decide_eq_false hk0]; simp)
            have HM2 : Hid (m2 = b2.length) := Lib.hid (by rw [hm2, hb2, List.length_append, ← HM.out]; rfl)
            have hm2l : m2 ≤ 16385 := by omega
            have HO2 : Hid (W.ownsRow w.heap.size 5 1 (.slice A2 m2 cap2) m2 (bcells b2)) := Lib.hid (by rw [hm2, hb2, bcells_append]; exact HO3.out)
            have HBLK : Hid (W.heap[bb]? = wr.heap[bb]?) := Lib.hid ((HG3.out.block bb (by simp; have := HLT.out; omega) (fun e => by have h1 := (World.ownsRow.lt HO.out bb e.symm).1; have h2 := HLTW.out; omega)).trans (((Below.refl wr.heap.size wr).alloc (Nat.le_refl _) (.cells #[.int .u8 32] 5)).block bb HLT.out))
            have HRG2 : Hid (W.rangeAt bb (off + k * 4) [.int .u8 (kd : Nat), .string st, .int .i64 iv, .int .i64 pl]) := Lib.hid (fun jj u hu => (World.cell?_of_block (a := ⟨bb, off + k * 4 + jj, none⟩) HBLK.out).trans (HRG.out jj u hu))
            try rw [← hm2]
            clear hm2 hb2 hk0
            have g1 : W.cell? ⟨bb, off + k * 4 + 1, none⟩ = some (.string st) := HRG2.out 1 _ rfl
            have g0 : W.cell? ⟨bb, off + k * 4, none⟩ = some (.int .u8 (kd : Nat)) := HRG2.out 0 _ rfl
            have g2 : W.cell? ⟨bb, off + k * 4 + 2, none⟩ = some (.int .i64 iv) := HRG2.out 2 _ rfl
            have HRX : Hid (rightB x0 = true) := Lib.hid (List.all_eq_true.1 HALR.out x0 HMEM.out)
            by_cases hk2 : kd = 2
            · have e2 : ((kd : Int) == 2) = true := by simp [hk2]
              have e3 : ((kd : Int) == 3) = false := by simp; omega
              have HIV : Hid (0 ≤ iv ∧ iv ≤ 9223372036854775807) := Lib.hid (by
                have h := HRX.out
                have h2 := HOK.out.i.2
                rw [HX0.out] at h h2
                unfold rightB at h
                dsimp only at h h2
                rw [if_neg (by omega), if_pos hk2, Bool.and_eq_true, decide_eq_true_eq, decide_eq_true_eq] at h
                exact ⟨h.2, h2⟩)
              obtain ⟨xn, hxn⟩ : ∃ z : Nat, iv = (z : Int) := ⟨iv.toNat, by have := HIV.out.1; omega⟩
              have HSP : Hid (spellT x0 = Lib.decDigits xn) := Lib.hid (by
                unfold spellT
                rw [HX0.out]
                dsimp only
                rw [if_pos hk2, hxn]
                unfold Lib.itoa
                rw [if_neg (by omega), Int.toNat_natCast])
              have HXN : Hid (xn ≤ 9223372036854775807) := Lib.hid (by have := HIV.out.2; omega)
              have HSV : Hid ((⟨(Lib.decDigits xn).toArray⟩ : ByteArray).data.toList = spellT x0 ∧ (⟨(Lib.decDigits xn).toArray⟩ : ByteArray).size ≤ 17000) := Lib.hid ⟨by rw [HSP.out], by have := dec_len19 HXN.out; show (Lib.decDigits xn).length ≤ _; omega⟩
              have HCL := Lib.hid (digits_any xn HXN.out W)
              rw [hxn] at g2
              clear hk2
              go_wp2_with fail
              refine HCL.out.mono ?_
              rintro e W3 ⟨rfl, hw3⟩
              have HO23 : Hid (W3.ownsRow w.heap.size 5 1 (.slice A2 m2 cap2) m2 (bcells b2)) := Lib.hid (own_below HO2.out hw3)
              have HBX3 : Hid (Below w.heap.size w W3) := Lib.hid (HBX.out.trans (hw3.mono HBX.out.size))
              have HRG3 : Hid (W3.rangeAt bb (off + k * 4) [.int .u8 (kd : Nat), .string st, .int .i64 iv, .int .i64 pl]) := Lib.hid (fun jj u hu => (World.cell?_of_block (hw3.block _ (Nat.lt_of_lt_of_le HLTW.out HBX.out.size))).trans (HRG2.out jj u hu))
              have g0 : W3.cell? ⟨bb, off + k * 4, none⟩ = some (.int .u8 (kd : Nat)) := HRG3.out 0 _ rfl
              clear hw3 HO2 HBX HRG2 HCL
              have HO2 := HO23
              have HBX := HBX3
              generalize W3 = W at *
              obtain ⟨hi0, hz0, hz1, hz2⟩ := HI.out
              go_upto_region 18 with (at_builtin; refine Lib.wpList_append_own_string _ rfl _ _ 35 9 rfl w.heap.size 5 i0 Tryd.underlying35 Tryd.underlying9 hi0 hz0 hz1 hz2 _ _ _ rfl HO2.out ⟨(Lib.decDigits xn).toArray⟩ rfl (by unfold maxLen; have := HSV.out.2; omega) (by have := HSV.out.2; omega) HBX.out.size ?_; intro v4 W4 ho4 hg4 _; obtain ⟨A4, cap4, rfl, _⟩ := own_form ho4; have HO4 := Lib.hid ho4; have HG4 := Lib.hid hg4; clear ho4 hg4; obtain ⟨m4, hm4⟩ : ∃ z, z = m2 + (⟨(Lib.decDigits xn).toArray⟩ : ByteArray).size := ⟨_, rfl⟩; have HM44 := Lib.hid hm4; rw [← hm4]; clear hm4)
              have HB4 : Hid (Below w.heap.size w W4) := Lib.hid (HBX.out.grown HG4.out HBX.out.size (fun g hg => (World.ownsRow.lt HO2.out g hg).1))
              have HBC : Hid (spF false (l.take (k + 1)) = b2 ++ (⟨(Lib.decDigits xn).toArray⟩ : ByteArray).data.toList) := Lib.hid (by rw [HTK.out, spF_append, HBD.out, ← List.append_assoc, ← HB2D.out, HSV.out.1])
              have HM4 : Hid (m4 = (b2 ++ (⟨(Lib.decDigits xn).toArray⟩ : ByteArray).data.toList).length) := Lib.hid (by rw [HM44.out, List.length_append, HM2.out, Array.length_toList]; rfl)
              have hm45 : m4 ≤ 40000 := by have := HSV.out.2; have := HM44.out; omega
              have HO5 : Hid (W4.ownsRow w.heap.size 5 1 (.slice A4 m4 cap4) m4 (bcells (b2 ++ (⟨(Lib.decDigits xn).toArray⟩ : ByteArray).data.toList))) := Lib.hid (by rw [HM44.out, bcells_append]; exact HO4.out)
              by_cases hbig : 16384 < m4
              · have db : decide ((m4 : Int) > 16384) = true := decide_eq_true (by omega)
                have db' : decide (16384 < m4) = true := decide_eq_true hbig
                have HF : Hid (spellL l = ([], 2)) := Lib.hid (by
                  unfold spellL
                  rw [HALR.out, if_pos rfl, if_pos]
                  have h := spF_pre l (k + 1)
                  rw [HBC.out, ← HM4.out] at h
                  omega)
                go_wp2_with fail
                go_ret2
                exact ⟨by rw [HF.out]; rfl, HB4.out⟩
              · have db : decide ((m4 : Int) > 16384) = false := decide_eq_false (by omega)
                have db' : decide (16384 < m4) = false := decide_eq_false hbig
                go_wp2_with fail
                go_roundw
                case rel => exact ⟨k + 1, b2 ++ (⟨(Lib.decDigits xn).toArray⟩ : ByteArray).data.toList, A4, cap4, by go_num, by rw [← HM4.out], by omega, HBC.out, by rw [← HM4.out]; omega, by rw [← HM4.out]; exact HO5.out, HB4.out⟩
                case measure => simp [intOf]; omega
            · have e2 : ((kd : Int) == 2) = false := by simp; omega
              by_cases hk3 : kd = 3
              · have e3 : ((kd : Int) == 3) = true := by simp [hk3]
                have HSP : Hid (spellT x0 = quoteL st.data.toList) := Lib.hid (by unfold spellT Tz.tx; rw [HX0.out]; dsimp only; rw [if_neg (by omega), if_pos hk3])
                have HTX : Hid (st.data.toList.length ≤ 4095) := Lib.hid (by
                  have h := HRX.out
                  unfold rightB Tz.tx at h
                  rw [HX0.out] at h
                  dsimp only at h
                  rw [if_neg (by omega), if_neg (by omega), if_pos hk3, Bool.and_eq_true, decide_eq_true_eq] at h
                  exact h.1)
                have HSV : Hid ((⟨(quoteL st.data.toList).toArray⟩ : ByteArray).data.toList = spellT x0 ∧ (⟨(quoteL st.data.toList).toArray⟩ : ByteArray).size ≤ 17000) := Lib.hid ⟨by rw [HSP.out], by have := quote_len st.data.toList; have := HTX.out; show (quoteL st.data.toList).length ≤ _; omega⟩
                have HCL : Hid (Calls Tryd.prog 20 #[.string st] W fun e w' => e = .returned (.string ⟨(quoteL st.data.toList).toArray⟩) ∧ Below W.heap.size W w') := Lib.hid (by
                  have := rquoted_any st.data.toList (by have := HTX.out; omega) W
                  simpa using this)
                clear hk3
                go_wp2_with fail
                refine HCL.out.mono ?_
                rintro e W3 ⟨rfl, hw3⟩
                have HO23 : Hid (W3.ownsRow w.heap.size 5 1 (.slice A2 m2 cap2) m2 (bcells b2)) := Lib.hid (own_below HO2.out hw3)
                have HBX3 : Hid (Below w.heap.size w W3) := Lib.hid (HBX.out.trans (hw3.mono HBX.out.size))
                have HRG3 : Hid (W3.rangeAt bb (off + k * 4) [.int .u8 (kd : Nat), .string st, .int .i64 iv, .int .i64 pl]) := Lib.hid (fun jj u hu => (World.cell?_of_block (hw3.block _ (Nat.lt_of_lt_of_le HLTW.out HBX.out.size))).trans (HRG2.out jj u hu))
                have g0 : W3.cell? ⟨bb, off + k * 4, none⟩ = some (.int .u8 (kd : Nat)) := HRG3.out 0 _ rfl
                clear hw3 HO2 HBX HRG2 HCL
                have HO2 := HO23
                have HBX := HBX3
                generalize W3 = W at *
                obtain ⟨hi0, hz0, hz1, hz2⟩ := HI.out
                go_upto_region 18 with (at_builtin; refine Lib.wpList_append_own_string _ rfl _ _ 35 9 rfl w.heap.size 5 i0 Tryd.underlying35 Tryd.underlying9 hi0 hz0 hz1 hz2 _ _ _ rfl HO2.out ⟨(quoteL st.data.toList).toArray⟩ rfl (by unfold maxLen; have := HSV.out.2; omega) (by have := HSV.out.2; omega) HBX.out.size ?_; intro v4 W4 ho4 hg4 _; obtain ⟨A4, cap4, rfl, _⟩ := own_form ho4; have HO4 := Lib.hid ho4; have HG4 := Lib.hid hg4; clear ho4 hg4; obtain ⟨m4, hm4⟩ : ∃ z, z = m2 + (⟨(quoteL st.data.toList).toArray⟩ : ByteArray).size := ⟨_, rfl⟩; have HM44 := Lib.hid hm4; rw [← hm4]; clear hm4)
                have HB4 : Hid (Below w.heap.size w W4) := Lib.hid (HBX.out.grown HG4.out HBX.out.size (fun g hg => (World.ownsRow.lt HO2.out g hg).1))
                have HBC : Hid (spF false (l.take (k + 1)) = b2 ++ (⟨(quoteL st.data.toList).toArray⟩ : ByteArray).data.toList) := Lib.hid (by rw [HTK.out, spF_append, HBD.out, ← List.append_assoc, ← HB2D.out, HSV.out.1])
                have HM4 : Hid (m4 = (b2 ++ (⟨(quoteL st.data.toList).toArray⟩ : ByteArray).data.toList).length) := Lib.hid (by rw [HM44.out, List.length_append, HM2.out, Array.length_toList]; rfl)
                have hm45 : m4 ≤ 40000 := by have := HSV.out.2; have := HM44.out; omega
                have HO5 : Hid (W4.ownsRow w.heap.size 5 1 (.slice A4 m4 cap4) m4 (bcells (b2 ++ (⟨(quoteL st.data.toList).toArray⟩ : ByteArray).data.toList))) := Lib.hid (by rw [HM44.out, bcells_append]; exact HO4.out)
                by_cases hbig : 16384 < m4
                · have db : decide ((m4 : Int) > 16384) = true := decide_eq_true (by omega)
                  have db' : decide (16384 < m4) = true := decide_eq_true hbig
                  have HF : Hid (spellL l = ([], 2)) := Lib.hid (by
                    unfold spellL
                    rw [HALR.out, if_pos rfl, if_pos]
                    have h := spF_pre l (k + 1)
                    rw [HBC.out, ← HM4.out] at h
                    omega)
                  go_wp2_with fail
                  go_ret2
                  exact ⟨by rw [HF.out]; rfl, HB4.out⟩
                · have db : decide ((m4 : Int) > 16384) = false := decide_eq_false (by omega)
                  have db' : decide (16384 < m4) = false := decide_eq_false hbig
                  go_wp2_with fail
                  go_roundw
                  case rel => exact ⟨k + 1, b2 ++ (⟨(quoteL st.data.toList).toArray⟩ : ByteArray).data.toList, A4, cap4, by go_num, by rw [← HM4.out], by omega, HBC.out, by rw [← HM4.out]; omega, by rw [← HM4.out]; exact HO5.out, HB4.out⟩
                  case measure => simp [intOf]; omega
              · have e3 : ((kd : Int) == 3) = false := by simp; omega
                have HSV : Hid (st.data.toList = spellT x0 ∧ st.size ≤ 17000) := Lib.hid (by
                  have h1 : st.data.toList.length ≤ 24 := right_len HRX.out (by rw [HX0.out]; exact hk2) (by rw [HX0.out]; exact hk3) (by rw [HX0.out]; rfl)
                  rw [Array.length_toList] at h1
                  exact ⟨by unfold spellT Tz.tx; rw [HX0.out]; dsimp only; rw [if_neg hk2, if_neg hk3], by show st.data.size ≤ _; omega⟩)
                obtain ⟨hi0, hz0, hz1, hz2⟩ := HI.out
                go_upto_region 18 with (at_builtin; refine Lib.wpList_append_own_string _ rfl _ _ 35 9 rfl w.heap.size 5 i0 Tryd.underlying35 Tryd.underlying9 hi0 hz0 hz1 hz2 _ _ _ rfl HO2.out st rfl (by unfold maxLen; have := HSV.out.2; omega) (by have := HSV.out.2; omega) HBX.out.size ?_; intro v4 W4 ho4 hg4 _; obtain ⟨A4, cap4, rfl, _⟩ := own_form ho4; have HO4 := Lib.hid ho4; have HG4 := Lib.hid hg4; clear ho4 hg4; obtain ⟨m4, hm4⟩ : ∃ z, z = m2 + st.size := ⟨_, rfl⟩; have HM44 := Lib.hid hm4; rw [← hm4]; clear hm4)
                have HB4 : Hid (Below w.heap.size w W4) := Lib.hid (HBX.out.grown HG4.out HBX.out.size (fun g hg => (World.ownsRow.lt HO2.out g hg).1))
                have HBC : Hid (spF false (l.take (k + 1)) = b2 ++ st.data.toList) := Lib.hid (by rw [HTK.out, spF_append, HBD.out, ← List.append_assoc, ← HB2D.out, HSV.out.1])
                have HM4 : Hid (m4 = (b2 ++ st.data.toList).length) := Lib.hid (by rw [HM44.out, List.length_append, HM2.out, Array.length_toList]; rfl)
                have hm45 : m4 ≤ 40000 := by have := HSV.out.2; have := HM44.out; omega
                have HO5 : Hid (W4.ownsRow w.heap.size 5 1 (.slice A4 m4 cap4) m4 (bcells (b2 ++ st.data.toList))) := Lib.hid (by rw [HM44.out, bcells_append]; exact HO4.out)
                by_cases hbig : 16384 < m4
                · have db : decide ((m4 : Int) > 16384) = true := decide_eq_true (by omega)
                  have db' : decide (16384 < m4) = true := decide_eq_true hbig
                  have HF : Hid (spellL l = ([], 2)) := Lib.hid (by
                    unfold spellL
                    rw [HALR.out, if_pos rfl, if_pos]
                    have h := spF_pre l (k + 1)
                    rw [HBC.out, ← HM4.out] at h
                    omega)
                  go_wp2_with fail
                  go_ret2
                  exact ⟨by rw [HF.out]; rfl, HB4.out⟩
                · have db : decide ((m4 : Int) > 16384) = false := decide_eq_false (by omega)
                  have db' : decide (16384 < m4) = false := decide_eq_false hbig
                  go_wp2_with fail
                  go_roundw
                  case rel => exact ⟨k + 1, b2 ++ st.data.toList, A4, cap4, by go_num, by rw [← HM4.out], by omega, HBC.out, by rw [← HM4.out]; omega, by rw [← HM4.out]; exact HO5.out, HB4.out⟩
                  case measure => simp [intOf]; omega
        · have di : decide ((k : Int) < (n : Int)) = false := decide_eq_false (by omega)
          have HF : Hid (spellL l = (b, 0)) := Lib.hid (by
            have h := HBD.out
            rw [List.take_of_length_le (by rw [← HH.out.2.1]; omega)] at h
            unfold spellL
            rw [HALR.out, if_pos rfl, h, if_neg (by rw [← HM.out]; omega)])
          have hstr := run_str_own (P := Tryd.prog) wr 35 9 5 w.heap.size (.slice A m cap) m b Tryd.underlying35 Tryd.underlying5 Tryd.underlying9 HM.out.symm HO.out
          go_wp2_with fail
          go_ret2
          exact ⟨by rw [HF.out]; rfl, HB.out⟩
end Go.Proofs.YtlfkiaphmifelaaDoor
