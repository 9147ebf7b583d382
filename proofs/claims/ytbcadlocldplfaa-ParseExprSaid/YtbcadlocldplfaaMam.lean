/- Plain law: the document's signs, the longer ones first, are the signs. No program in sight. And what follows from it. -/
import Derived.Laws.CopyOwn
import Derived.Deep.QuietTactic
import Derived.BigQuiet
import Derived.OneCell
import Derived.WalkLawsBesides
import Derived.Test.YtbcadlocldplfaaMae
set_option linter.unusedSimpArgs false
set_option linter.unusedVariables false
namespace Go.Proofs.Ytbcadlocldplfaa

def signsL : List (List UInt8) := [[61, 61], [33, 61], [60, 61], [40], [41], [123], [125], [91], [93], [44], [61], [60], [43], [45], [42], [47], [37]]
def mtB (s : List UInt8) (i : Nat) (t : List UInt8) : Bool := decide (i + t.length ≤ s.length) && (cutL s i (i + t.length) == t)
def noSign (s : List UInt8) (i : Nat) (c : UInt8) : (Nat × Nat) ⊕ (Tok × Nat) := if c ≠ 33 then .inl (i, 9) else if s.length = i + 1 then .inl (i + 1, 4) else .inl (i + 1, 9)
def refSign (s : List UInt8) (i : Nat) (c : UInt8) (k : Nat) : (Nat × Nat) ⊕ (Tok × Nat) :=
  match (signsL.drop k).find? (mtB s i) with
  | some t => .inr (⟨4, t, 0, i⟩, i + t.length)
  | none => noSign s i c
section
variable {s : List UInt8} {i : Nat} {c : UInt8}
theorem refSign_end : refSign s i c 17 = noSign s i c := rfl
theorem refSign_yes {k : Nat} {t : List UInt8} (ht : signsL[k]? = some t) (h : mtB s i t = true) : refSign s i c k = .inr (⟨4, t, 0, i⟩, i + t.length) := by
  obtain ⟨hk, he⟩ := List.getElem?_eq_some_iff.1 ht
  unfold refSign
  rw [List.drop_eq_getElem_cons hk, he, List.find?_cons, h]
theorem refSign_no {k : Nat} {t : List UInt8} (ht : signsL[k]? = some t) (h : mtB s i t = false) : refSign s i c k = refSign s i c (k + 1) := by
  obtain ⟨hk, he⟩ := List.getElem?_eq_some_iff.1 ht
  unfold refSign
  rw [List.drop_eq_getElem_cons hk, he, List.find?_cons, h]
theorem cut_one (hc : s[i]? = some c) : cutL s i (i + 1) = [c] := by
  obtain ⟨hk, he⟩ := List.getElem?_eq_some_iff.1 hc
  rw [cut_next s (Nat.le_refl i) hk, cut_self, he]; rfl
theorem mt_one (hc : s[i]? = some c) (a : UInt8) : mtB s i [a] = (c == a) := by
  obtain ⟨hk, _⟩ := List.getElem?_eq_some_iff.1 hc
  unfold mtB
  rw [show ([a] : List UInt8).length = 1 from rfl, cut_one hc, decide_eq_true (by omega : i + 1 ≤ s.length), Bool.true_and, Bool.eq_iff_iff]
  simp
theorem cut_two (hc : s[i]? = some c) {d : UInt8} (hd : s[i + 1]? = some d) : cutL s i (i + 2) = [c, d] := by
  obtain ⟨hk, he⟩ := List.getElem?_eq_some_iff.1 hd
  rw [show i + 2 = i + 1 + 1 from rfl, cut_next s (by omega : i ≤ i + 1) hk, cut_one hc, he]; rfl
theorem mt_two (hc : s[i]? = some c) (a b : UInt8) : mtB s i [a, b] = (c == a && s[i + 1]? == some b) := by
  unfold mtB
  rw [show ([a, b] : List UInt8).length = 2 from rfl]
  cases hd : s[i + 1]? with
  | none =>
    have : s.length ≤ i + 1 := List.getElem?_eq_none_iff.1 hd
    rw [decide_eq_false (by omega : ¬ i + 2 ≤ s.length)]; simp
  | some d =>
    obtain ⟨hk, _⟩ := List.getElem?_eq_some_iff.1 hd
    rw [cut_two hc hd, decide_eq_true (by omega : i + 2 ≤ s.length), Bool.true_and, Bool.eq_iff_iff]
    simp
theorem refSign_eq (hc : s[i]? = some c) : refSign s i c 0 = signL s i c := by
  obtain ⟨hk, _⟩ := List.getElem?_eq_some_iff.1 hc
  have h1 := cut_one hc
  have HF : refSign s i c 0 = match signsL.find? (mtB s i) with | some t => .inr (⟨4, t, 0, i⟩, i + t.length) | none => noSign s i c := rfl
  rw [HF]
  simp only [signsL, List.find?_cons, List.find?_nil, mt_one hc, mt_two hc]
  clear HF
  cases hd : s[i + 1]? with
  | none =>
    have hle2 : s.length = i + 1 := by have := List.getElem?_eq_none_iff.1 hd; omega
    by_cases hm : c ∈ signs
    · have hm0 := hm
      simp only [signs, List.mem_cons, List.not_mem_nil, or_false] at hm0
      rcases hm0 with h | h | h | h | h | h | h | h | h | h | h | h | h | h | h <;> (subst h; simp [signL, noSign, hm, hd, hle2, h1])
    · have hm0 := hm
      simp only [signs, List.mem_cons, List.not_mem_nil, or_false, not_or] at hm0
      obtain ⟨a1, a2, a3, a4, a5, a6, a7, a8, a9, a10, a11, a12, a13, a14, a15⟩ := hm0
      simp only [beq_eq_false_iff_ne.2 a1, beq_eq_false_iff_ne.2 a2, beq_eq_false_iff_ne.2 a3, beq_eq_false_iff_ne.2 a4, beq_eq_false_iff_ne.2 a5, beq_eq_false_iff_ne.2 a6, beq_eq_false_iff_ne.2 a7, beq_eq_false_iff_ne.2 a8, beq_eq_false_iff_ne.2 a9, beq_eq_false_iff_ne.2 a10, beq_eq_false_iff_ne.2 a11, beq_eq_false_iff_ne.2 a12, beq_eq_false_iff_ne.2 a13, beq_eq_false_iff_ne.2 a14, beq_eq_false_iff_ne.2 a15, Bool.false_and]
      simp [signL, noSign, hm, a15]
  | some d =>
    obtain ⟨hk2, _⟩ := List.getElem?_eq_some_iff.1 hd
    have h2 := cut_two hc hd
    have hle : ¬ s.length ≤ i + 1 := by omega
    have hle3 : ¬ s.length = i + 1 := by omega
    by_cases hm : c ∈ signs
    · have hm0 := hm
      simp only [signs, List.mem_cons, List.not_mem_nil, or_false] at hm0
      by_cases hd61 : d = 61
      · subst hd61
        rcases hm0 with h | h | h | h | h | h | h | h | h | h | h | h | h | h | h <;> (subst h; simp [signL, noSign, hm, hd, hle, h1, h2])
      · have hd62 : (some d == some (61 : UInt8)) = false := by rw [beq_eq_false_iff_ne]; intro h; injection h with h; exact hd61 h
        simp only [hd62, Bool.and_false]
        rcases hm0 with h | h | h | h | h | h | h | h | h | h | h | h | h | h | h <;> (subst h; simp [signL, noSign, hm, hd, hd61, hle, hle3, h1])
    · have hm0 := hm
      simp only [signs, List.mem_cons, List.not_mem_nil, or_false, not_or] at hm0
      obtain ⟨a1, a2, a3, a4, a5, a6, a7, a8, a9, a10, a11, a12, a13, a14, a15⟩ := hm0
      simp only [beq_eq_false_iff_ne.2 a1, beq_eq_false_iff_ne.2 a2, beq_eq_false_iff_ne.2 a3, beq_eq_false_iff_ne.2 a4, beq_eq_false_iff_ne.2 a5, beq_eq_false_iff_ne.2 a6, beq_eq_false_iff_ne.2 a7, beq_eq_false_iff_ne.2 a8, beq_eq_false_iff_ne.2 a9, beq_eq_false_iff_ne.2 a10, beq_eq_false_iff_ne.2 a11, beq_eq_false_iff_ne.2 a12, beq_eq_false_iff_ne.2 a13, beq_eq_false_iff_ne.2 a14, beq_eq_false_iff_ne.2 a15, Bool.false_and]
      simp [signL, noSign, hm, a15]
end
end Go.Proofs.Ytbcadlocldplfaa
namespace Go.Proofs.Ytbcadlocldplfaa
open Go.RowKit

theorem low_any (c : UInt8) (w : World) : Calls Try.prog 67 #[.int .u8 (c.toNat : Nat)] w fun e w' => e = .returned (.bool (lowB c)) ∧ w' = w := by
  have HC : Hid (lowB c = (decide (97 ≤ c.toNat) && decide (c.toNat ≤ 122))) := rfl
  have h1 : c.toNat < 256 := UInt8.toNat_lt _
  generalize c.toNat = x at *
  by_cases ha : 97 ≤ x
  · by_cases hb : x ≤ 122
    · go_enter Try.func67, Try.ntmps67
      go_wp2_with fail
      go_ret
      exact ⟨by rw [HC.out]; simp [ha, hb]; omega, rfl⟩
    · go_enter Try.func67, Try.ntmps67
      go_wp2_with fail
      go_ret
      exact ⟨by rw [HC.out]; simp [ha, hb]; omega, rfl⟩
  · go_enter Try.func67, Try.ntmps67
    go_wp2_with fail
    go_ret
    exact ⟨by rw [HC.out]; simp [ha], rfl⟩
theorem dig_any (c : UInt8) (w : World) : Calls Try.prog 69 #[.int .u8 (c.toNat : Nat)] w fun e w' => e = .returned (.bool (digB c)) ∧ w' = w := by
  have HC : Hid (digB c = (decide (48 ≤ c.toNat) && decide (c.toNat ≤ 57))) := rfl
  have h1 : c.toNat < 256 := UInt8.toNat_lt _
  generalize c.toNat = x at *
  by_cases ha : 48 ≤ x
  · by_cases hb : x ≤ 57
    · go_enter Try.func69, Try.ntmps69
      go_wp2_with fail
      go_ret
      exact ⟨by rw [HC.out]; simp [ha, hb]; omega, rfl⟩
    · go_enter Try.func69, Try.ntmps69
      go_wp2_with fail
      go_ret
      exact ⟨by rw [HC.out]; simp [ha, hb]; omega, rfl⟩
  · go_enter Try.func69, Try.ntmps69
    go_wp2_with fail
    go_ret
    exact ⟨by rw [HC.out]; simp [ha], rfl⟩

/-- Where a place leads to: what is said from there is said from here. -/
def Leads (s : List UInt8) (i j : Nat) : Prop := i ≤ j ∧ j ≤ s.length ∧ (∀ l, allL s i l = allL s j l) ∧ ∀ c, s[j]? = some c → c ≠ 32 ∧ c ≠ 10 ∧ c ≠ 35

theorem skip_blank {s : List UInt8} {i : Nat} {c : UInt8} (hc : s[i]? = some c) (h : c = 32 ∨ c = 10) (l : List Tok) : allL s i l = allL s (i + 1) l := by
  rw [allL_step, hc]
  show (if c = 32 ∨ c = 10 then _ else _) = _
  rw [if_pos h]
theorem skip_remark {s : List UInt8} {i : Nat} {c : UInt8} (hc : s[i]? = some c) (h : c = 35) (l : List Tok) : allL s i l = allL s (scan notNl s (i + 1)) l := by
  rw [allL_step, hc]
  show (if c = 32 ∨ c = 10 then _ else _) = _
  rw [if_neg (by rw [h]; decide), if_pos h]

set_option maxHeartbeats 2000000 in
theorem skip_any (s : List UInt8) (i : Nat) (hs : s.length ≤ 100000) (hi : i ≤ s.length) (w : World) :
    Calls Try.prog 43 #[.string ⟨s.toArray⟩, .int .i64 (i : Nat)] w fun e w' => (∃ j, e = .returned (.int .i64 (j : Nat)) ∧ Leads s i j) ∧ w' = w := by
  obtain ⟨st, hst⟩ : ∃ st : ByteArray, st = ⟨s.toArray⟩ := ⟨_, rfl⟩
  have hsz : st.size = s.length := by rw [hst]; rfl
  obtain ⟨n, hn⟩ : ∃ n, n = s.length := ⟨_, rfl⟩
  rw [← hst]
  rw [← hn] at hsz hs hi
  have HST := Lib.hid hst
  have HN := Lib.hid hn
  clear hst hn
  go_enter Try.func43, Try.ntmps43
  go_wp2_with fail
  go_loopw [1, 5] (fun s1 s5 wr => wr = w ∧ ∃ (k : Nat) (r : Bool), s1 = .int .i64 k ∧ s5 = .bool r ∧ i ≤ k ∧ k ≤ n ∧ ∀ l, allL s i l = allL s (if r then scan notNl s k else k) l) (fun s1 _ _ => n - (intOf s1).toNat)
  case atStart => exact ⟨rfl, i, false, rfl, rfl, Nat.le_refl _, hi, fun _ => rfl⟩
  case round =>
    obtain ⟨rfl, k, r, rfl, rfl, hik, hkn, hL⟩ := hrel
    have HL := Lib.hid hL
    clear hL
    by_cases hlt : k < n
    · have hks : k < s.length := by rw [← HN.out]; exact hlt
      obtain ⟨ch, hch⟩ : ∃ c, c = s[k] := ⟨_, rfl⟩
      have hkst : k < st.size := by omega
      have hg : st[k] = ch := by rw [hch]; exact st_get HST.out hkst hks
      have HCH : Hid (s[k]? = some ch) := by rw [hch]; exact List.getElem?_eq_getElem hks
      have HSC : Hid (ch ≠ 10 → scan notNl s k = scan notNl s (k + 1)) := fun h => scan_step _ _ hks (by rw [← hch]; unfold notNl; simpa using h)
      have HS10 : Hid (ch = 10 → scan notNl s k = k) := fun h => scan_stop _ _ hks (by rw [← hch, h]; rfl)
      clear hch hks
      have HE : Hid (∀ q : UInt8, ch = q ↔ ch.toNat = q.toNat) := fun q => ⟨fun h => by rw [h], fun h => UInt8.toNat_inj.1 h⟩
      have hcl : ch.toNat < 256 := UInt8.toNat_lt _
      obtain ⟨cv, hcv⟩ : ∃ v, v = ch.toNat := ⟨_, rfl⟩
      have hg2 : st[k].toNat = cv := by rw [hg, hcv]
      have HCV := Lib.hid hcv
      rw [← hcv] at hcl
      clear hg hcv
      by_cases h10 : cv = 10
      · have hb : ((cv : Int) == 10) = true := by rw [h10]; rfl
        have H10 : Hid (ch = 10) := (HE.out 10).2 (HCV.out.symm.trans h10)
        clear h10
        go_wp2_with fail
        go_roundw
        case rel =>
          refine ⟨trivial, k + 1, false, by go_num, rfl, by omega, by omega, fun l => ?_⟩
          rw [HL.out l]
          cases r
          · exact skip_blank HCH.out (.inr H10.out) l
          · show allL s (scan notNl s k) l = _
            rw [HS10.out H10.out]
            exact skip_blank HCH.out (.inr H10.out) l
        case measure => simp [intOf]; omega
      · have hb : ((cv : Int) == 10) = false := by rw [beq_eq_false_iff_ne]; omega
        have HN10 : Hid (ch ≠ 10) := fun h => h10 (HCV.out.trans ((HE.out 10).1 h))
        clear h10
        by_cases h35 : cv = 35
        · have hb2 : ((cv : Int) == 35) = true := by rw [h35]; rfl
          have H35 : Hid (ch = 35) := (HE.out 35).2 (HCV.out.symm.trans h35)
          clear h35
          go_wp2_with fail
          go_roundw
          case rel =>
            refine ⟨trivial, k + 1, true, by go_num, rfl, by omega, by omega, fun l => ?_⟩
            rw [HL.out l]
            cases r
            · exact skip_remark HCH.out H35.out l
            · show allL s (scan notNl s k) l = allL s (scan notNl s (k + 1)) l
              rw [HSC.out HN10.out]
          case measure => simp [intOf]; omega
        · have hb2 : ((cv : Int) == 35) = false := by rw [beq_eq_false_iff_ne]; omega
          have HN35 : Hid (ch ≠ 35) := fun h => h35 (HCV.out.trans ((HE.out 35).1 h))
          clear h35
          cases r
          · by_cases h32 : cv = 32
            · have hb3 : ((cv : Int) != 32) = false := by rw [h32]; rfl
              have H32 : Hid (ch = 32) := (HE.out 32).2 (HCV.out.symm.trans h32)
              clear h32
              go_wp2_with fail
              go_roundw
              case rel => exact ⟨trivial, k + 1, false, by go_num, rfl, by omega, by omega, fun l => (HL.out l).trans (skip_blank HCH.out (.inl H32.out) l)⟩
              case measure => simp [intOf]; omega
            · have hb3 : ((cv : Int) != 32) = true := by rw [bne_iff_ne]; omega
              have HN32 : Hid (ch ≠ 32) := fun h => h32 (HCV.out.trans ((HE.out 32).1 h))
              clear h32
              go_wp2_with fail
              go_ret
              refine ⟨⟨k, rfl, hik, by rw [← HN.out]; exact hkn, HL.out, fun c hc => ?_⟩, rfl⟩
              rw [HCH.out] at hc
              injection hc with hc
              rw [← hc]
              exact ⟨HN32.out, HN10.out, HN35.out⟩
          · go_wp2_with fail
            go_roundw
            case rel =>
              refine ⟨trivial, k + 1, true, by go_num, rfl, by omega, by omega, fun l => ?_⟩
              rw [HL.out l]
              show allL s (scan notNl s k) l = allL s (scan notNl s (k + 1)) l
              rw [HSC.out HN10.out]
            case measure => simp [intOf]; omega
    · have hkn2 : k = n := by omega
      have HK : Hid (Leads s i k) := by
        refine ⟨hik, by rw [← HN.out]; omega, fun l => ?_, fun c hc => ?_⟩
        · rw [HL.out l]
          cases r
          · rfl
          · show allL s (scan notNl s k) l = _
            rw [scan_end _ _ (by rw [← HN.out]; omega)]
        · rw [List.getElem?_eq_none (by rw [← HN.out]; omega)] at hc; cases hc
      go_wp2_with fail
      go_ret
      exact ⟨⟨k, rfl, HK.out⟩, rfl⟩
end Go.Proofs.Ytbcadlocldplfaa
namespace Go.Proofs.Ytbcadlocldplfaa
open Go.RowKit

def toldV (t : Tok) (e q er : Nat) : Value := .agg #[.int .u8 (t.kind : Nat), .string ⟨t.text.toArray⟩, .int .i64 (t.int : Nat), .int .i64 (t.place : Nat), .int .i64 (e : Nat), .int .i64 (q : Nat), .int .i64 (er : Nat)]
/-- A 'Told': a token and where it ends; or where it goes wrong, and how. -/
def told : (Nat × Nat) ⊕ (Tok × Nat) → Value
  | .inl (q, er) => toldV ⟨0, [], 0, 0⟩ 0 q er
  | .inr (t, e) => toldV t e 0 0
def ToldPost (w : World) (r : (Nat × Nat) ⊕ (Tok × Nat)) (e : Ending) (w' : World) : Prop := e = .returned (told r) ∧ Below w.heap.size w w'

theorem wrong_any (q e : Nat) (w : World) : Calls Try.prog 89 #[.int .i64 (q : Nat), .int .i64 (e : Nat)] w (ToldPost w (.inl (q, e))) := by
  go_enter Try.func89, Try.ntmps89
  go_wp2_with fail
  refine bodyPost_ret (results_cell_row rfl _ _ w.heap.size 79 _ (0, 0) _ rfl (Blk.new w 79 _) Try.underlying79 rfl (by kernel_rfl)) rfl ⟨rfl, (Below.refl _ _).alloc (Nat.le_refl _) _⟩
theorem extract_cut (s : List UInt8) (i e : Nat) : (⟨s.toArray⟩ : ByteArray).extract i e = ⟨(cutL s i e).toArray⟩ := by
  apply ByteArray.ext
  rw [ByteArray.data_extract]
  unfold cutL
  simp [List.drop_take]
end Go.Proofs.Ytbcadlocldplfaa
namespace Go.Proofs.Ytbcadlocldplfaa
open Go.RowKit

def signCells : Array Value := (signsL.map fun l => Value.string ⟨l.toArray⟩).toArray
theorem signs_call (w : World) :
    Calls Try.prog 91 #[] w fun e w' => e = .returned (.slice (some ⟨w.heap.size, 0, none⟩) 17 17) ∧ w.alloc (.cells signCells 9) = w' := by
  go_enter Try.func91, Try.ntmps91
  go_wp2
  go_ret
  exact ⟨rfl, rfl⟩
theorem signCells_get (k : Nat) (t : List UInt8) (h : signsL[k]? = some t) : signCells[k]? = some (.string ⟨t.toArray⟩) := by
  unfold signCells
  rw [List.getElem?_toArray, List.getElem?_map, h]; rfl

set_option maxRecDepth 100000 in
set_option maxHeartbeats 8000000 in
theorem refSign_any (s : List UInt8) (i : Nat) (c0 : UInt8) (hs : s.length ≤ 100000) (hc0 : s[i]? = some c0) (w : World) :
    Calls Try.prog 72 #[.string ⟨s.toArray⟩, .int .i64 (i : Nat)] w (ToldPost w (signL s i c0)) := by
  obtain ⟨st, hst⟩ : ∃ st : ByteArray, st = ⟨s.toArray⟩ := ⟨_, rfl⟩
  have hsz : st.size = s.length := by rw [hst]; rfl
  obtain ⟨n, hn⟩ : ∃ n, n = s.length := ⟨_, rfl⟩
  have hil : i < s.length := (List.getElem?_eq_some_iff.1 hc0).1
  have hsi : s[i] = c0 := by have h := hc0; rw [List.getElem?_eq_getElem hil] at h; injection h
  have hist0 : i < st.size := by omega
  obtain ⟨v0, hv0⟩ : ∃ v, v = c0.toNat := ⟨_, rfl⟩
  have hg0 : st[i].toNat = v0 := by rw [hv0, ← hsi, st_get hst hist0 hil]
  have hv0l : v0 < 256 := by rw [hv0]; exact UInt8.toNat_lt _
  have HC33 : Hid (c0 = 33 ↔ v0 = 33) := by rw [hv0]; exact ⟨fun h => by rw [h]; rfl, fun h => UInt8.toNat_inj.1 h⟩
  have HSG := Lib.hid (refSign_eq hc0)
  rw [← hst]
  rw [← hn] at hsz hs hil
  have HST := Lib.hid hst
  have HN := Lib.hid hn
  clear hst hn hsi hc0 hv0
  go_enter Try.func72, Try.ntmps72
  go_wp2_with fail
  refine (signs_call _).mono ?_
  rintro e w2 ⟨rfl, hw2⟩
  rw [← hw2]
  clear hw2 w2
  go_wp2_with fail
  go_loopw [6, 7] (fun s6 s7 wr => ∃ k : Nat, s6 = .int .i64 k ∧ k ≤ 17 ∧ refSign s i c0 k = signL s i c0 ∧ Blk wr w.heap.size 79 #[.int .u8 0, .string ⟨#[]⟩, .int .i64 0, .int .i64 0, .int .i64 0, .int .i64 0, .int .i64 0] ∧ Blk wr (w.heap.size + 1) 9 signCells ∧ Below w.heap.size w wr) (fun s6 _ _ => 17 - (intOf s6).toNat)
  case atStart => exact ⟨0, rfl, by omega, HSG.out, (Blk.new w 79 _).alloc _, new2 w _ _, ((Below.refl _ _).alloc (Nat.le_refl _) _).alloc (by simp) _⟩
  case round =>
    obtain ⟨k, rfl, hk17, hsg, hy, hy2, hb⟩ := hrel
    have HBW := Lib.hid hb
    have HY := Lib.hid hy
    have HY2 := Lib.hid hy2
    have HK := Lib.hid hsg
    have hszr : w.heap.size < wr.heap.size := hy.lt
    clear hsg hy hy2 hb
    by_cases hlt : k < 17
    · have hkl : k < signsL.length := hlt
      obtain ⟨t, ht⟩ : ∃ t, signsL[k]? = some t := ⟨_, List.getElem?_eq_getElem hkl⟩
      have htl : 1 ≤ t.length ∧ t.length ≤ 2 := by
        have h : t ∈ signsL := List.mem_of_getElem? ht
        have h : ∀ t ∈ signsL, 1 ≤ t.length ∧ t.length ≤ 2 := by decide
        exact h t (List.mem_of_getElem? ht)
      obtain ⟨htl1, htl2⟩ := htl
      obtain ⟨tb, htb⟩ : ∃ tb : ByteArray, tb = ⟨t.toArray⟩ := ⟨_, rfl⟩
      obtain ⟨L, hL⟩ : ∃ L, L = t.length := ⟨_, rfl⟩
      have hts : tb.size = L := by rw [htb, hL]; rfl
      have hcell : wr.cell? ⟨w.heap.size + 1, k, none⟩ = some (.string tb) := by rw [HY2.out.cell k, signCells_get k t ht, htb]
      rw [← hL] at htl1 htl2
      have HT := Lib.hid ht
      have HTB := Lib.hid htb
      have HL := Lib.hid hL
      have HMT : Hid (mtB s i t = (decide (i + L ≤ n) && (cutL s i (i + L) == t))) := by unfold mtB; rw [← HL.out, ← HN.out]; exact rfl
      clear ht htb hL hkl
      by_cases hfit : i + L ≤ n
      · have hsl := fun W => run_slice_string (P := Try.prog) (w := W) 9 st .i64 .i64 (i : Nat) ((i + L : Nat) : Int) Try.underlying9 (by omega) (by omega) (by omega)
        simp only [Int.toNat_natCast] at hsl
        obtain ⟨sub, hsub⟩ : ∃ sub, sub = st.extract i (i + L) := ⟨_, rfl⟩
        have HSUB : Hid ((sub.toList == tb.toList) = (cutL s i (i + L) == t)) := by rw [hsub, HST.out, extract_cut, HTB.out]; simp [Lib.toList_data]; exact trivial
        rw [← hsub] at hsl
        have hci : ((i + L : Nat) : Int) = (i : Int) + (L : Int) := by omega
        rw [hci] at hsl
        clear hsub hci
        have hd1 : decide ((i : Int) + (L : Int) ≤ (n : Int)) = true := decide_eq_true (by omega)
        have HFT : Hid (decide (i + L ≤ n) = true) := decide_eq_true hfit
        cases hq : (sub.toList == tb.toList)
        · have hmt : mtB s i t = false := by rw [HMT.out, HFT.out, ← HSUB.out, hq]; rfl
          have HR2 : Hid (refSign s i c0 (k + 1) = signL s i c0) := by rw [← HK.out]; exact (refSign_no HT.out hmt).symm
          clear hmt
          go_wp2_with fail
          go_quiet (fail)
          replace hcell : (wr.drewN nq).cell? ⟨w.heap.size + 1, k, none⟩ = some (.string tb) := hcell
          replace HY : Hid (Blk (wr.drewN nq) w.heap.size 79 #[.int .u8 0, .string ⟨#[]⟩, .int .i64 0, .int .i64 0, .int .i64 0, .int .i64 0, .int .i64 0]) := HY
          replace HY2 : Hid (Blk (wr.drewN nq) (w.heap.size + 1) 9 signCells) := HY2
          replace HBW : Hid (Below w.heap.size w (wr.drewN nq)) := below_drewN HBW.out nq
          replace hszr : w.heap.size < (wr.drewN nq).heap.size := hszr
          generalize wr.drewN nq = wq at *
          go_wp2_with fail
          go_roundw
          case rel => exact ⟨k + 1, by go_num, by omega, HR2.out, HY.out, HY2.out, HBW.out⟩
          case measure => simp [intOf]; omega
        · have HR : Hid (signL s i c0 = .inr (⟨4, t, 0, i⟩, i + L)) := by rw [← HK.out, refSign_yes HT.out (by rw [HMT.out, HFT.out, ← HSUB.out, hq]; rfl), ← HL.out]; exact rfl
          go_wp2_with fail
          go_quiet (fail)
          replace hcell : (wr.drewN nq).cell? ⟨w.heap.size + 1, k, none⟩ = some (.string tb) := hcell
          replace HY : Hid (Blk (wr.drewN nq) w.heap.size 79 #[.int .u8 0, .string ⟨#[]⟩, .int .i64 0, .int .i64 0, .int .i64 0, .int .i64 0, .int .i64 0]) := HY
          replace HY2 : Hid (Blk (wr.drewN nq) (w.heap.size + 1) 9 signCells) := HY2
          replace HBW : Hid (Below w.heap.size w (wr.drewN nq)) := below_drewN HBW.out nq
          replace hszr : w.heap.size < (wr.drewN nq).heap.size := hszr
          generalize wr.drewN nq = wq at *
          go_wp2_with (refine wpList_store_row rfl 79 _ _ rfl w.heap.size #[.int .u8 4, .string tb, .int .i64 0, .int .i64 (i : Nat), .int .i64 ((i : Int) + (L : Int)), .int .i64 0, .int .i64 0] rfl rfl 79 _ HY.out (by kernel_rfl) (by kernel_rfl) (by kernel_rfl) ?_)
          refine bodyPost_ret (results_cell_row rfl _ _ w.heap.size 79 #[.int .u8 4, .string tb, .int .i64 0, .int .i64 (i : Nat), .int .i64 ((i : Int) + (L : Int)), .int .i64 0, .int .i64 0] (0, 0) _ rfl (setRow_heap _ w.heap.size _ _ 79 _ HY.out) Try.underlying79 rfl (by kernel_rfl)) rfl ⟨by rw [HR.out, HTB.out]; rfl, below_setRow HBW.out (Nat.le_refl _) _⟩
      · have hmt : mtB s i t = false := by rw [HMT.out, decide_eq_false hfit]; rfl
        have HR2 : Hid (refSign s i c0 (k + 1) = signL s i c0) := by rw [← HK.out]; exact (refSign_no HT.out hmt).symm
        clear hmt
        have hd1 : decide ((i : Int) + (L : Int) ≤ (n : Int)) = false := decide_eq_false (by omega)
        clear hfit
        go_wp2_with fail
        go_quiet (fail)
        replace hcell : (wr.drewN nq).cell? ⟨w.heap.size + 1, k, none⟩ = some (.string tb) := hcell
        replace HY : Hid (Blk (wr.drewN nq) w.heap.size 79 #[.int .u8 0, .string ⟨#[]⟩, .int .i64 0, .int .i64 0, .int .i64 0, .int .i64 0, .int .i64 0]) := HY
        replace HY2 : Hid (Blk (wr.drewN nq) (w.heap.size + 1) 9 signCells) := HY2
        replace HBW : Hid (Below w.heap.size w (wr.drewN nq)) := below_drewN HBW.out nq
        replace hszr : w.heap.size < (wr.drewN nq).heap.size := hszr
        generalize wr.drewN nq = wq at *
        go_wp2_with fail
        go_roundw
        case rel => exact ⟨k + 1, by go_num, by omega, HR2.out, HY.out, HY2.out, HBW.out⟩
        case measure => simp [intOf]; omega
    · obtain rfl : k = 17 := by omega
      have HNS : Hid (signL s i c0 = if c0 ≠ 33 then .inl (i, 9) else if s.length = i + 1 then .inl (i + 1, 4) else .inl (i + 1, 9)) := HK.out.symm
      by_cases h33 : v0 = 33
      · have hb33 : ((v0 : Int) != 33) = false := by rw [h33]; rfl
        have HN2 : Hid (signL s i c0 = if s.length = i + 1 then .inl (i + 1, 4) else .inl (i + 1, 9)) := by rw [HNS.out, if_neg (fun h => h (HC33.out.2 h33))]; exact rfl
        clear h33 HNS
        by_cases hend : n = i + 1
        · have HR : Hid (signL s i c0 = .inl (i + 1, 4)) := by rw [HN2.out, if_pos (by rw [← HN.out]; exact hend)]; exact rfl
          have hb1 : ((i : Int) + 1 == (n : Int)) = true := by rw [beq_iff_eq]; omega
          clear hend
          go_wp2_with fail
          refine (wrong_any (i + 1) 4 wr).mono ?_
          rintro e w2 ⟨rfl, hb2⟩
          unfold told toldV
          have HB2 := Lib.hid (HBW.out.trans (hb2.mono HBW.out.size))
          have HY3 : Hid (Blk w2 w.heap.size 79 #[.int .u8 0, .string ⟨#[]⟩, .int .i64 0, .int .i64 0, .int .i64 0, .int .i64 0, .int .i64 0]) := (hb2.block _ hszr).trans HY.out
          clear hb2
          go_wp2_with (refine wpList_store_row rfl 79 _ _ rfl w.heap.size #[.int .u8 0, .string ⟨#[]⟩, .int .i64 0, .int .i64 0, .int .i64 0, .int .i64 (i + 1 : Nat), .int .i64 4] rfl rfl 79 _ HY3.out (by kernel_rfl) (by kernel_rfl) (by kernel_rfl) ?_)
          refine bodyPost_ret (results_cell_row rfl _ _ w.heap.size 79 #[.int .u8 0, .string ⟨#[]⟩, .int .i64 0, .int .i64 0, .int .i64 0, .int .i64 (i + 1 : Nat), .int .i64 4] (0, 0) _ rfl (setRow_heap _ w.heap.size _ _ 79 _ HY3.out) Try.underlying79 rfl (by kernel_rfl)) rfl ⟨by rw [HR.out]; rfl, below_setRow HB2.out (Nat.le_refl _) _⟩
        · have HR : Hid (signL s i c0 = .inl (i + 1, 9)) := by rw [HN2.out, if_neg (by rw [← HN.out]; exact hend)]; exact rfl
          have hb1 : ((i : Int) + 1 == (n : Int)) = false := by rw [beq_eq_false_iff_ne]; omega
          clear hend
          go_wp2_with fail
          refine (wrong_any (i + 1) 9 wr).mono ?_
          rintro e w2 ⟨rfl, hb2⟩
          unfold told toldV
          have HB2 := Lib.hid (HBW.out.trans (hb2.mono HBW.out.size))
          have HY3 : Hid (Blk w2 w.heap.size 79 #[.int .u8 0, .string ⟨#[]⟩, .int .i64 0, .int .i64 0, .int .i64 0, .int .i64 0, .int .i64 0]) := (hb2.block _ hszr).trans HY.out
          clear hb2
          go_wp2_with (refine wpList_store_row rfl 79 _ _ rfl w.heap.size #[.int .u8 0, .string ⟨#[]⟩, .int .i64 0, .int .i64 0, .int .i64 0, .int .i64 (i + 1 : Nat), .int .i64 9] rfl rfl 79 _ HY3.out (by kernel_rfl) (by kernel_rfl) (by kernel_rfl) ?_)
          refine bodyPost_ret (results_cell_row rfl _ _ w.heap.size 79 #[.int .u8 0, .string ⟨#[]⟩, .int .i64 0, .int .i64 0, .int .i64 0, .int .i64 (i + 1 : Nat), .int .i64 9] (0, 0) _ rfl (setRow_heap _ w.heap.size _ _ 79 _ HY3.out) Try.underlying79 rfl (by kernel_rfl)) rfl ⟨by rw [HR.out]; rfl, below_setRow HB2.out (Nat.le_refl _) _⟩
      · have hb33 : ((v0 : Int) != 33) = true := by rw [bne_iff_ne]; omega
        have HR : Hid (signL s i c0 = .inl (i, 9)) := by rw [HNS.out, if_pos (fun h => h33 (HC33.out.1 h))]; exact rfl
        clear h33
        go_wp2_with fail
        refine (wrong_any (i) 9 wr).mono ?_
        rintro e w2 ⟨rfl, hb2⟩
        unfold told toldV
        have HB2 := Lib.hid (HBW.out.trans (hb2.mono HBW.out.size))
        have HY3 : Hid (Blk w2 w.heap.size 79 #[.int .u8 0, .string ⟨#[]⟩, .int .i64 0, .int .i64 0, .int .i64 0, .int .i64 0, .int .i64 0]) := (hb2.block _ hszr).trans HY.out
        clear hb2
        go_wp2_with (refine wpList_store_row rfl 79 _ _ rfl w.heap.size #[.int .u8 0, .string ⟨#[]⟩, .int .i64 0, .int .i64 0, .int .i64 0, .int .i64 (i : Nat), .int .i64 9] rfl rfl 79 _ HY3.out (by kernel_rfl) (by kernel_rfl) (by kernel_rfl) ?_)
        refine bodyPost_ret (results_cell_row rfl _ _ w.heap.size 79 #[.int .u8 0, .string ⟨#[]⟩, .int .i64 0, .int .i64 0, .int .i64 0, .int .i64 (i : Nat), .int .i64 9] (0, 0) _ rfl (setRow_heap _ w.heap.size _ _ 79 _ HY3.out) Try.underlying79 rfl (by kernel_rfl)) rfl ⟨by rw [HR.out]; rfl, below_setRow HB2.out (Nat.le_refl _) _⟩
end Go.Proofs.Ytbcadlocldplfaa
namespace Go.Proofs.Ytbcadlocldplfaa
open Go.RowKit

theorem refHex_any (c : UInt8) (w : World) : Calls Try.prog 97 #[.int .u8 (c.toNat : Nat)] w fun e w' => e = .returned (.int .i64 ((hexD c).elim (-1) fun d => (d : Int))) ∧ w' = w := by
  have HD := Lib.hid (dig_any c w)
  have HH : Hid (hexD c = if digB c then some (c.toNat - 48) else if 97 ≤ c.toNat ∧ c.toNat ≤ 102 then some (c.toNat - 87) else none) := rfl
  have HG : Hid (digB c = (decide (48 ≤ c.toNat) && decide (c.toNat ≤ 57))) := rfl
  have h1 : c.toNat < 256 := UInt8.toNat_lt _
  generalize c.toNat = x at *
  cases hd : digB c
  · rw [hd] at HD HH
    by_cases ha : 97 ≤ x
    · by_cases hb : x ≤ 102
      · have HR : Hid (hexD c = some (x - 87)) := by rw [HH.out, if_neg (by decide), if_pos ⟨ha, hb⟩]; exact rfl
        clear hd HG HH
        go_enter Try.func97, Try.ntmps97
        go_wp2_with fail
        refine HD.out.mono ?_
        rintro e w2 ⟨rfl, rfl⟩
        go_wp2_with fail
        go_ret
        exact ⟨by rw [HR.out]; exact congrArg (fun z => Ending.returned (Value.int .i64 z)) (by simp; omega), rfl⟩
      · have HR : Hid (hexD c = none) := by rw [HH.out, if_neg (by decide), if_neg (fun h => hb h.2)]; exact rfl
        clear hd HG HH
        go_enter Try.func97, Try.ntmps97
        go_wp2_with fail
        refine HD.out.mono ?_
        rintro e w2 ⟨rfl, rfl⟩
        go_wp2_with fail
        go_ret
        exact ⟨by rw [HR.out]; rfl, rfl⟩
    · have HR : Hid (hexD c = none) := by rw [HH.out, if_neg (by decide), if_neg (fun h => ha h.1)]; exact rfl
      clear hd HG HH
      go_enter Try.func97, Try.ntmps97
      go_wp2_with fail
      refine HD.out.mono ?_
      rintro e w2 ⟨rfl, rfl⟩
      go_wp2_with fail
      go_ret
      exact ⟨by rw [HR.out]; rfl, rfl⟩
  · have h2 : 48 ≤ x ∧ x ≤ 57 := by have h := HG.out; rw [hd] at h; simpa using h.symm
    obtain ⟨h3, h4⟩ := h2
    rw [hd] at HD HH
    have HR : Hid (hexD c = some (x - 48)) := by rw [HH.out, if_pos rfl]; exact rfl
    clear hd HG HH
    go_enter Try.func97, Try.ntmps97
    go_wp2_with fail
    refine HD.out.mono ?_
    rintro e w2 ⟨rfl, rfl⟩
    go_wp2_with fail
    go_ret
    exact ⟨by rw [HR.out]; exact congrArg (fun z => Ending.returned (Value.int .i64 z)) (by simp; omega), rfl⟩
end Go.Proofs.Ytbcadlocldplfaa
namespace Go.Proofs.Ytbcadlocldplfaa
open Go.RowKit

/-- What escape hands back. -/
def escR (r : (Nat × Nat) ⊕ (Nat × Nat)) : Nat × Nat × Nat × Nat := match r with
  | .inl (q, e) => (0, 0, q, e)
  | .inr (x, nx) => (x, nx, 0, 0)
def EscPost (w : World) (R : Nat × Nat × Nat × Nat) (e : Ending) (w' : World) : Prop :=
  e = .returned (.tuple #[.int .u8 (R.1 : Nat), .int .i64 (R.2.1 : Nat), .int .i64 (R.2.2.1 : Nat), .int .i64 (R.2.2.2 : Nat)]) ∧ w' = w

set_option maxHeartbeats 4000000 in
theorem escape_any (s : List UInt8) (i : Nat) (hs : s.length ≤ 100000) (w : World) :
    Calls Try.prog 90 #[.string ⟨s.toArray⟩, .int .i64 (i : Nat)] w (EscPost w (escR (escL s i))) := by
  obtain ⟨st, hst⟩ : ∃ st : ByteArray, st = ⟨s.toArray⟩ := ⟨_, rfl⟩
  have hsz : st.size = s.length := by rw [hst]; rfl
  obtain ⟨n, hn⟩ : ∃ n, n = s.length := ⟨_, rfl⟩
  rw [← hst]
  rw [← hn] at hsz hs
  have HST := Lib.hid hst
  have HN := Lib.hid hn
  clear hst hn
  go_enter Try.func90, Try.ntmps90
  by_cases hin : n ≤ i
  · have HR : Hid (escR (escL s i) = (0, 0, n, 4)) := by unfold escL; rw [List.getElem?_eq_none (by rw [← HN.out]; exact hin), HN.out]; exact rfl
    go_wp2_with fail
    refine bodyPost_ret (results_tmp4 rfl _ _ _) rfl ?_
    exact ⟨by rw [HR.out]; rfl, rfl⟩
  · have hlt : i < n := by omega
    have hdn : decide (n ≤ i) = false := decide_eq_false hin
    clear hin
    have hks : i < s.length := by rw [← HN.out]; exact hlt
    obtain ⟨ch, hch⟩ : ∃ c, c = s[i] := ⟨_, rfl⟩
    have hkst : i < st.size := by omega
    have hg : st[i] = ch := by rw [hch]; exact st_get HST.out hkst hks
    have HCH : Hid (s[i]? = some ch) := by rw [hch]; exact List.getElem?_eq_getElem hks
    have HR0 : Hid (escL s i = if ch = 34 ∨ ch = 92 then .inr (ch.toNat, i + 1) else if ch = 110 then .inr (10, i + 1) else if ch = 120 then hex2 s (i + 1) else .inl (i, 9)) := by unfold escL; rw [HCH.out]; exact rfl
    clear hch hks
    have HE : Hid (∀ q : UInt8, ch = q ↔ ch.toNat = q.toNat) := fun q => ⟨fun h => by rw [h], fun h => UInt8.toNat_inj.1 h⟩
    have hcl : ch.toNat < 256 := UInt8.toNat_lt _
    obtain ⟨cv, hcv⟩ : ∃ v, v = ch.toNat := ⟨_, rfl⟩
    have hg2 : st[i].toNat = cv := by rw [hg, hcv]
    have HCV := Lib.hid hcv
    rw [← hcv] at hcl
    clear hg hcv
    by_cases h1 : cv = 34
    · have hb1 : ((cv : Int) == 34) = true := by rw [h1]; rfl
      have HR : Hid (escR (escL s i) = (cv, i + 1, 0, 0)) := by rw [HR0.out, if_pos (.inl ((HE.out 34).2 (HCV.out.symm.trans h1))), ← HCV.out]; exact rfl
      clear h1 HR0
      go_wp2_with fail
      refine bodyPost_ret (results_tmp4 rfl _ _ _) rfl ?_
      exact ⟨by rw [HR.out]; rfl, rfl⟩
    · have hb1 : ((cv : Int) == 34) = false := by rw [beq_eq_false_iff_ne]; omega
      by_cases h2 : cv = 92
      · have hb2 : ((cv : Int) == 92) = true := by rw [h2]; rfl
        have HR : Hid (escR (escL s i) = (cv, i + 1, 0, 0)) := by rw [HR0.out, if_pos (.inr ((HE.out 92).2 (HCV.out.symm.trans h2))), ← HCV.out]; exact rfl
        clear h1 h2 HR0
        go_wp2_with fail
        refine bodyPost_ret (results_tmp4 rfl _ _ _) rfl ?_
        exact ⟨by rw [HR.out]; rfl, rfl⟩
      · have hb2 : ((cv : Int) == 92) = false := by rw [beq_eq_false_iff_ne]; omega
        have HN1 : Hid (¬ (ch = 34 ∨ ch = 92)) := fun h => h.elim (fun h => h1 (HCV.out.trans ((HE.out 34).1 h))) (fun h => h2 (HCV.out.trans ((HE.out 92).1 h)))
        clear h1 h2
        by_cases h3 : cv = 110
        · have hb3 : ((cv : Int) == 110) = true := by rw [h3]; rfl
          have HR : Hid (escR (escL s i) = (10, i + 1, 0, 0)) := by rw [HR0.out, if_neg HN1.out, if_pos ((HE.out 110).2 (HCV.out.symm.trans h3))]; exact rfl
          clear h3 HR0
          go_wp2_with fail
          refine bodyPost_ret (results_tmp4 rfl _ _ _) rfl ?_
          exact ⟨by rw [HR.out]; rfl, rfl⟩
        · have hb3 : ((cv : Int) == 110) = false := by rw [beq_eq_false_iff_ne]; omega
          by_cases h4 : cv = 120
          · have hb4 : ((cv : Int) != 120) = false := by rw [h4]; rfl
            have HR1 : Hid (escR (escL s i) = escR (hex2 s (i + 1))) := by rw [HR0.out, if_neg HN1.out, if_neg (fun h => h3 (HCV.out.trans ((HE.out 110).1 h))), if_pos ((HE.out 120).2 (HCV.out.symm.trans h4))]; exact rfl
            clear h3 h4 HR0
            go_wp2_with fail
            go_loopw [9, 10] (fun s9 s10 wr => wr = w ∧ ∃ j x : Nat, s10 = .int .i64 ((i + 1 + j : Nat) : Int) ∧ s9 = .int .i64 x ∧ x < 256 ∧ ((j = 0 ∧ x = 0) ∨ (j = 1 ∧ x < 16 ∧ i + 1 < n ∧ ∃ a : UInt8, s[i + 1]? = some a ∧ hexD a = some x) ∨ (j = 2 ∧ i + 2 < n ∧ hex2 s (i + 1) = .inr (x, i + 3)))) (fun _ s10 _ => i + 3 - (intOf s10).toNat)
            case atStart => exact ⟨rfl, 0, 0, by first | rfl | (congr 1), rfl, by omega, .inl ⟨rfl, rfl⟩⟩
            case round =>
              obtain ⟨rfl, j, x, rfl, rfl, hx, hj⟩ := hrel
              rcases hj with ⟨rfl, rfl⟩ | ⟨rfl, hx16, hk2n, a, ha, hax⟩ | ⟨rfl, hk3, hh⟩
              · by_cases hke : n ≤ i + 1
                · have HR : Hid (escR (escL s i) = (0, 0, n, 4)) := by
                    rw [HR1.out]
                    unfold hex2
                    rw [List.getElem?_eq_none (by rw [← HN.out]; omega), HN.out]; exact rfl
                  go_wp2_with fail
                  refine bodyPost_ret (results_tmp4 rfl _ _ _) rfl ?_
                  exact ⟨by rw [HR.out]; rfl, rfl⟩
                · have hkl : i + 1 < n := by omega
                  clear hke
                  have hks : i + 1 < s.length := by rw [← HN.out]; exact hkl
                  obtain ⟨d1, hd1⟩ : ∃ c, c = s[i + 1] := ⟨_, rfl⟩
                  have hkst2 : i + 1 < st.size := by omega
                  have hgd : st[i + 1] = d1 := by rw [hd1]; exact st_get HST.out hkst2 hks
                  have HD1 : Hid (s[i + 1]? = some d1) := by rw [hd1]; exact List.getElem?_eq_getElem hks
                  clear hd1 hks
                  go_wp2_with fail
                  refine (refHex_any d1 _).mono ?_
                  rintro e w2 ⟨rfl, hw2⟩
                  rw [hw2]
                  clear hw2 w2
                  cases hhd : hexD d1 with
                  | none =>
                    have HR : Hid (escR (escL s i) = (0, 0, i + 1, 9)) := by
                      rw [HR1.out]
                      unfold hex2
                      rw [HD1.out]
                      simp only [hhd]
                      exact rfl
                    clear hhd
                    simp only [Option.elim]
                    go_wp2_with fail
                    refine bodyPost_ret (results_tmp4 rfl _ _ _) rfl ?_
                    exact ⟨by rw [HR.out]; rfl, rfl⟩
                  | some d =>
                    have hd16 := hexD_lt hhd
                    have HHD := Lib.hid hhd
                    clear hhd
                    simp only [Option.elim]
                    go_wp2_with fail
                    go_roundw
                    case rel => exact ⟨trivial, 1, d, congrArg (Value.int .i64) (by omega), congrArg (Value.int .i64) (by omega), by omega, .inr (.inl ⟨rfl, hd16, hkl, d1, HD1.out, HHD.out⟩)⟩
                    case measure => simp [intOf]; omega
              · have HA := Lib.hid (And.intro ha hax)
                clear ha hax
                by_cases hke : n ≤ i + 2
                · have HR : Hid (escR (escL s i) = (0, 0, n, 4)) := by
                    rw [HR1.out]
                    unfold hex2
                    rw [HA.out.1]
                    simp only [HA.out.2]
                    rw [List.getElem?_eq_none (by rw [← HN.out]; omega), HN.out]; exact rfl
                  go_wp2_with fail
                  refine bodyPost_ret (results_tmp4 rfl _ _ _) rfl ?_
                  exact ⟨by rw [HR.out]; rfl, rfl⟩
                · have hkl : i + 2 < n := by omega
                  clear hke
                  have hks : i + 2 < s.length := by rw [← HN.out]; exact hkl
                  obtain ⟨d1, hd1⟩ : ∃ c, c = s[i + 2] := ⟨_, rfl⟩
                  have hkst2 : i + 2 < st.size := by omega
                  have hgd : st[i + 2] = d1 := by rw [hd1]; exact st_get HST.out hkst2 hks
                  have HD1 : Hid (s[i + 2]? = some d1) := by rw [hd1]; exact List.getElem?_eq_getElem hks
                  clear hd1 hks
                  go_wp2_with fail
                  refine (refHex_any d1 _).mono ?_
                  rintro e w2 ⟨rfl, hw2⟩
                  rw [hw2]
                  clear hw2 w2
                  cases hhd : hexD d1 with
                  | none =>
                    have HR : Hid (escR (escL s i) = (0, 0, i + 2, 9)) := by
                      rw [HR1.out]
                      unfold hex2
                      rw [HA.out.1]
                      simp only [HA.out.2]
                      rw [HD1.out]
                      simp only [hhd]
                      exact rfl
                    clear hhd
                    simp only [Option.elim]
                    go_wp2_with fail
                    refine bodyPost_ret (results_tmp4 rfl _ _ _) rfl ?_
                    exact ⟨by rw [HR.out]; rfl, rfl⟩
                  | some d =>
                    have hd16 := hexD_lt hhd
                    have HHD := Lib.hid hhd
                    clear hhd
                    simp only [Option.elim]
                    go_wp2_with fail
                    go_roundw
                    case rel =>
                      refine ⟨trivial, 2, 16 * x + d, congrArg (Value.int .i64) (by omega), congrArg (Value.int .i64) (by omega), by omega, .inr (.inr ⟨rfl, hkl, ?_⟩)⟩
                      unfold hex2
                      rw [HA.out.1]
                      simp only [HA.out.2]
                      rw [HD1.out]
                      simp only [HHD.out]
                    case measure => simp [intOf]; omega
              · have HR : Hid (escR (escL s i) = (x, i + 3, 0, 0)) := by rw [HR1.out, hh]; exact rfl
                clear hh
                go_wp2_with fail
                refine bodyPost_ret (results_tmp4 rfl _ _ _) rfl ?_
                exact ⟨by rw [HR.out]; first | rfl | (refine congrArg Ending.returned ?_; simp; omega), rfl⟩
          · have hb4 : ((cv : Int) != 120) = true := by rw [bne_iff_ne]; omega
            have HR : Hid (escR (escL s i) = (0, 0, i, 9)) := by rw [HR0.out, if_neg HN1.out, if_neg (fun h => h3 (HCV.out.trans ((HE.out 110).1 h))), if_neg (fun h => h4 (HCV.out.trans ((HE.out 120).1 h)))]; exact rfl
            clear h3 h4 HR0
            go_wp2_with fail
            refine bodyPost_ret (results_tmp4 rfl _ _ _) rfl ?_
            exact ⟨by rw [HR.out]; rfl, rfl⟩
end Go.Proofs.Ytbcadlocldplfaa
namespace Go.Proofs.Ytbcadlocldplfaa
set_option maxRecDepth 100000
open Go.RowKit

theorem esc_err {s : List UInt8} {k q e : Nat} (h : escL s k = .inl (q, e)) : e ≠ 0 := by
  unfold escL at h
  split at h
  · injection h with h; injection h with _ h2; omega
  · split at h
    · cases h
    · split at h
      · cases h
      · split at h
        · unfold hex2 at h
          split at h
          · injection h with h; injection h with _ h2; omega
          · split at h
            · injection h with h; injection h with _ h2; omega
            · split at h
              · injection h with h; injection h with _ h2; omega
              · split at h
                · injection h with h; injection h with _ h2; omega
                · cases h
        · injection h with h; injection h with _ h2; omega
/-- How far a text's character goes. -/
theorem esc_le {s : List UInt8} {k x nx : Nat} (h : escL s k = .inr (x, nx)) : nx ≤ s.length := by
  unfold escL at h
  split at h
  · cases h
  · rename_i c hc
    have hk : k < s.length := (List.getElem?_eq_some_iff.1 hc).1
    split at h
    · injection h with h; injection h with h1 h2; omega
    · split at h
      · injection h with h; injection h with h1 h2; omega
      · split at h
        · unfold hex2 at h
          split at h
          · cases h
          · split at h
            · cases h
            · split at h
              · cases h
              · rename_i b hb
                have hk2 : k + 1 + 1 < s.length := (List.getElem?_eq_some_iff.1 hb).1
                split at h
                · cases h
                · injection h with h; injection h with h1 h2; omega
        · cases h

set_option maxRecDepth 100000 in
set_option maxHeartbeats 8000000 in
theorem refText_any (s : List UInt8) (i : Nat) (hs : s.length ≤ 100000) (hi : i < s.length) (w : World) :
    Calls Try.prog 71 #[.string ⟨s.toArray⟩, .int .i64 (i : Nat)] w (ToldPost w (textT s i)) := by
  obtain ⟨i0, hi0, hz0, hz1, hz2⟩ := info_parts Try.info5
  have HI := Lib.hid (And.intro hi0 (And.intro hz0 (And.intro hz1 hz2)))
  clear hi0 hz0 hz1 hz2
  obtain ⟨st, hst⟩ : ∃ st : ByteArray, st = ⟨s.toArray⟩ := ⟨_, rfl⟩
  have hsz : st.size = s.length := by rw [hst]; rfl
  obtain ⟨n, hn⟩ : ∃ n, n = s.length := ⟨_, rfl⟩
  obtain ⟨R, hR⟩ : ∃ R, R = textL s i (i + 1) [] := ⟨_, rfl⟩
  have HTT : Hid (textT s i = if R.2.2.2 = 0 then .inr (⟨3, R.1, 0, i⟩, R.2.1) else .inl (R.2.2.1, R.2.2.2)) := by unfold textT; rw [hR]; exact rfl
  have HESC := Lib.hid (fun k W => escape_any s k hs W)
  rw [← hst] at HESC ⊢
  rw [← hn] at hsz hs hi
  have HST := Lib.hid hst
  have HN := Lib.hid hn
  have HR0 := Lib.hid hR
  clear hst hn hR
  go_enter Try.func71, Try.ntmps71
  go_wp2_with fail
  go_loopw [5, 6] (fun s8 s9 wr => ∃ (k : Nat) (b : List UInt8) (A : Option Addr) (cap : Nat), s9 = .int .i64 k ∧ s8 = .slice A b.length cap ∧ i < k ∧ k ≤ n ∧ b.length ≤ 4095 ∧ textL s i k b = R ∧ wr.ownsRow (w.heap.size + 1) 5 1 (.slice A b.length cap) b.length (bcells b) ∧ Below w.heap.size w wr ∧ Blk wr w.heap.size 79 #[.int .u8 0, .string ⟨#[]⟩, .int .i64 0, .int .i64 0, .int .i64 0, .int .i64 0, .int .i64 0]) (fun _ s9 _ => n - (intOf s9).toNat)
  case atStart => exact ⟨i + 1, [], none, 0, by go_num, rfl, by omega, by omega, by simp, HR0.out.symm, World.ownsRow_nil _ _ _ _, (Below.refl _ _).alloc (Nat.le_refl _) _, Blk.new w 79 _⟩
  case round =>
    obtain ⟨k, b, A, cap, rfl, rfl, hik, hkn, hbl, hR, ho, hb, hy⟩ := hrel
    have HB := Lib.hid hb
    have HBW := Lib.hid hb
    have HY := Lib.hid hy
    have hszr : w.heap.size < wr.heap.size := hy.lt
    obtain ⟨m, hm⟩ : ∃ m, m = b.length := ⟨_, rfl⟩
    rw [← hm] at ho hbl ⊢
    have HO := Lib.hid ho
    have HM := Lib.hid hm
    have HSTEP := Lib.hid (hR.symm.trans (textL_step s i k b))
    clear hR hb ho hm hy
    by_cases hlt : k < n
    · have hks : k < s.length := by rw [← HN.out]; exact hlt
      obtain ⟨ch, hch⟩ : ∃ c, c = s[k] := ⟨_, rfl⟩
      have hkst : k < st.size := by omega
      have hg : st[k] = ch := by rw [hch]; exact st_get HST.out hkst hks
      have hch2 : s[k]? = some ch := by rw [hch]; exact List.getElem?_eq_getElem hks
      have HS1 := Lib.hid (show R = if ch = 34 then (b, k + 1, 0, 0) else if ch.toNat < 32 ∨ 126 < ch.toNat then ([], 0, k, 9) else
          match charL s ch k with
          | .inl (q, e) => ([], 0, q, e)
          | .inr (x, nx) => if b.length = 4095 then ([], 0, i, 2) else textL s i nx (b ++ [UInt8.ofNat x]) by have h := HSTEP.out; rw [hch2] at h; exact h)
      clear hch hch2 hks HSTEP
      have hcl : ch.toNat < 256 := UInt8.toNat_lt _
      have HE : Hid (∀ q : UInt8, ch = q ↔ ch.toNat = q.toNat) := fun q => ⟨fun h => by rw [h], fun h => UInt8.toNat_inj.1 h⟩
      obtain ⟨cv, hcv⟩ : ∃ v, v = ch.toNat := ⟨_, rfl⟩
      have hg2 : st[k].toNat = cv := by rw [hg, hcv]
      have HCV := Lib.hid hcv
      rw [← hcv] at hcl
      clear hg hcv
      by_cases h34 : cv = 34
      · have HR : Hid (textT s i = .inr (⟨3, b, 0, i⟩, k + 1)) := by
          have hR2 : R = (b, k + 1, 0, 0) := by rw [HS1.out, if_pos ((HE.out 34).2 (HCV.out.symm.trans h34))]
          rw [HTT.out, hR2]; exact rfl
        have hstr := run_str_own (P := Try.prog) wr 58 9 5 (w.heap.size + 1) (.slice A m cap) m b Try.underlying58 Try.underlying5 Try.underlying9 HM.out.symm HO.out
        have hb34 : ((cv : Int) != 34) = false := by rw [h34]; rfl
        clear h34
        go_wp2_with (refine wpList_store_row rfl 79 _ _ rfl w.heap.size #[.int .u8 3, .string ⟨b.toArray⟩, .int .i64 0, .int .i64 (i : Nat), .int .i64 ((k : Int) + 1), .int .i64 0, .int .i64 0] rfl rfl 79 _ HY.out (by kernel_rfl) (by kernel_rfl) (by kernel_rfl) ?_)
        refine bodyPost_ret (results_cell_row rfl _ _ w.heap.size 79 #[.int .u8 3, .string ⟨b.toArray⟩, .int .i64 0, .int .i64 (i : Nat), .int .i64 ((k : Int) + 1), .int .i64 0, .int .i64 0] (0, 0) _ rfl (setRow_heap _ w.heap.size _ _ 79 _ HY.out) Try.underlying79 rfl (by kernel_rfl)) rfl ⟨by rw [HR.out]; rfl, below_setRow HBW.out (Nat.le_refl _) _⟩
      · have hb34 : ((cv : Int) != 34) = true := by rw [bne_iff_ne]; omega
        have HS2 : Hid (R = if ch.toNat < 32 ∨ 126 < ch.toNat then ([], 0, k, 9) else
            match charL s ch k with
            | .inl (q, e) => ([], 0, q, e)
            | .inr (x, nx) => if b.length = 4095 then ([], 0, i, 2) else textL s i nx (b ++ [UInt8.ofNat x])) := by rw [HS1.out, if_neg (fun h => h34 (HCV.out.trans ((HE.out 34).1 h)))]; exact rfl
        clear h34 HS1
        by_cases hlo : cv < 32
        · have HR : Hid (textT s i = .inl (k, 9)) := by
            have hR2 : R = ([], 0, k, 9) := by rw [HS2.out, if_pos (by rw [← HCV.out]; omega)]
            rw [HTT.out, hR2]; exact rfl
          go_wp2_with fail
          refine (wrong_any (k) 9 wr).mono ?_
          rintro e w2 ⟨rfl, hb2⟩
          unfold told toldV
          have HB2 := Lib.hid (HBW.out.trans (hb2.mono HBW.out.size))
          have HY2 : Hid (Blk w2 w.heap.size 79 #[.int .u8 0, .string ⟨#[]⟩, .int .i64 0, .int .i64 0, .int .i64 0, .int .i64 0, .int .i64 0]) := (hb2.block _ hszr).trans HY.out
          clear hb2
          go_wp2_with (refine wpList_store_row rfl 79 _ _ rfl w.heap.size #[.int .u8 0, .string ⟨#[]⟩, .int .i64 0, .int .i64 0, .int .i64 0, .int .i64 (k : Nat), .int .i64 9] rfl rfl 79 _ HY2.out (by kernel_rfl) (by kernel_rfl) (by kernel_rfl) ?_)
          refine bodyPost_ret (results_cell_row rfl _ _ w.heap.size 79 #[.int .u8 0, .string ⟨#[]⟩, .int .i64 0, .int .i64 0, .int .i64 0, .int .i64 (k : Nat), .int .i64 9] (0, 0) _ rfl (setRow_heap _ w.heap.size _ _ 79 _ HY2.out) Try.underlying79 rfl (by kernel_rfl)) rfl ⟨by rw [HR.out]; rfl, below_setRow HB2.out (Nat.le_refl _) _⟩
        · by_cases hup : 126 < cv
          · have HR : Hid (textT s i = .inl (k, 9)) := by
              have hR2 : R = ([], 0, k, 9) := by rw [HS2.out, if_pos (by rw [← HCV.out]; omega)]
              rw [HTT.out, hR2]; exact rfl
            go_wp2_with fail
            refine (wrong_any (k) 9 wr).mono ?_
            rintro e w2 ⟨rfl, hb2⟩
            unfold told toldV
            have HB2 := Lib.hid (HBW.out.trans (hb2.mono HBW.out.size))
            have HY2 : Hid (Blk w2 w.heap.size 79 #[.int .u8 0, .string ⟨#[]⟩, .int .i64 0, .int .i64 0, .int .i64 0, .int .i64 0, .int .i64 0]) := (hb2.block _ hszr).trans HY.out
            clear hb2
            go_wp2_with (refine wpList_store_row rfl 79 _ _ rfl w.heap.size #[.int .u8 0, .string ⟨#[]⟩, .int .i64 0, .int .i64 0, .int .i64 0, .int .i64 (k : Nat), .int .i64 9] rfl rfl 79 _ HY2.out (by kernel_rfl) (by kernel_rfl) (by kernel_rfl) ?_)
            refine bodyPost_ret (results_cell_row rfl _ _ w.heap.size 79 #[.int .u8 0, .string ⟨#[]⟩, .int .i64 0, .int .i64 0, .int .i64 0, .int .i64 (k : Nat), .int .i64 9] (0, 0) _ rfl (setRow_heap _ w.heap.size _ _ 79 _ HY2.out) Try.underlying79 rfl (by kernel_rfl)) rfl ⟨by rw [HR.out]; rfl, below_setRow HB2.out (Nat.le_refl _) _⟩
          · have HS3 : Hid (R = match charL s ch k with
                | .inl (q, e) => ([], 0, q, e)
                | .inr (x, nx) => if b.length = 4095 then ([], 0, i, 2) else textL s i nx (b ++ [UInt8.ofNat x])) := by rw [HS2.out, if_neg (by rw [← HCV.out]; omega)]; exact rfl
            clear HS2
            by_cases h92 : cv = 92
            · have hb92 : ((cv : Int) == 92) = true := by rw [h92]; rfl
              have HS5 : Hid (R = match escL s (k + 1) with
                | .inl (q, e) => ([], 0, q, e)
                | .inr (x, nx) => if b.length = 4095 then ([], 0, i, 2) else textL s i nx (b ++ [UInt8.ofNat x])) := by
                have h := HS3.out
                unfold charL at h
                rw [if_pos ((HE.out 92).2 (HCV.out.symm.trans h92))] at h
                exact h
              clear HS3 h92
              have HEK := Lib.hid (HESC.out (k + 1) wr)
              rcases hes : escL s (k + 1) with ⟨q, er⟩ | ⟨x, nx⟩
              · have her := esc_err hes
                have HR : Hid (textT s i = .inl (q, er)) := by
                  have hR2 : R = ([], 0, q, er) := by rw [HS5.out, hes]
                  rw [HTT.out, hR2]; exact if_neg her
                have hbe : ((er : Int) != 0) = true := by rw [bne_iff_ne]; omega
                rw [hes] at HEK
                unfold escR EscPost at HEK
                clear hes her
                dsimp only at HEK
                go_wp2_with fail
                refine HEK.out.mono ?_
                rintro e w2 ⟨rfl, hw2⟩
                rw [hw2]
                clear hw2 w2
                go_wp2_with fail
                refine (wrong_any (q) (er) wr).mono ?_
                rintro e w2 ⟨rfl, hb2⟩
                unfold told toldV
                have HB2 := Lib.hid (HBW.out.trans (hb2.mono HBW.out.size))
                have HY2 : Hid (Blk w2 w.heap.size 79 #[.int .u8 0, .string ⟨#[]⟩, .int .i64 0, .int .i64 0, .int .i64 0, .int .i64 0, .int .i64 0]) := (hb2.block _ hszr).trans HY.out
                clear hb2
                go_wp2_with (refine wpList_store_row rfl 79 _ _ rfl w.heap.size #[.int .u8 0, .string ⟨#[]⟩, .int .i64 0, .int .i64 0, .int .i64 0, .int .i64 (q : Nat), .int .i64 (er : Nat)] rfl rfl 79 _ HY2.out (by kernel_rfl) (by kernel_rfl) (by kernel_rfl) ?_)
                refine bodyPost_ret (results_cell_row rfl _ _ w.heap.size 79 #[.int .u8 0, .string ⟨#[]⟩, .int .i64 0, .int .i64 0, .int .i64 0, .int .i64 (q : Nat), .int .i64 (er : Nat)] (0, 0) _ rfl (setRow_heap _ w.heap.size _ _ 79 _ HY2.out) Try.underlying79 rfl (by kernel_rfl)) rfl ⟨by rw [HR.out]; rfl, below_setRow HB2.out (Nat.le_refl _) _⟩
              · have hnx : k < nx ∧ x < 256 := charL_next (c := 92) (show charL s 92 k = .inr (x, nx) by unfold charL; rw [if_pos rfl]; exact hes)
                obtain ⟨hnx1, hx256⟩ := hnx
                have hnxn : nx ≤ n := by rw [HN.out]; exact esc_le hes
                have HS4 : Hid (R = if b.length = 4095 then ([], 0, i, 2) else textL s i nx (b ++ [UInt8.ofNat x])) := by have h := HS5.out; rw [hes] at h; exact h
                rw [hes] at HEK
                unfold escR EscPost at HEK
                clear hes HS5
                dsimp only at HEK
                by_cases hmx : m = 4095
                · have HR : Hid (textT s i = .inl (i, 2)) := by
                    have hR2 : R = ([], 0, i, 2) := by rw [HS4.out, if_pos (HM.out.symm.trans hmx)]
                    rw [HTT.out, hR2]; exact rfl
                  have hbm : ((m : Int) == 4095) = true := by rw [hmx]; rfl
                  clear hmx
                  go_wp2_with fail
                  refine HEK.out.mono ?_
                  rintro e w2 ⟨rfl, hw2⟩
                  rw [hw2]
                  clear hw2 w2
                  go_wp2_with fail
                  refine (wrong_any (i) 2 wr).mono ?_
                  rintro e w2 ⟨rfl, hb2⟩
                  unfold told toldV
                  have HB2 := Lib.hid (HBW.out.trans (hb2.mono HBW.out.size))
                  have HY2 : Hid (Blk w2 w.heap.size 79 #[.int .u8 0, .string ⟨#[]⟩, .int .i64 0, .int .i64 0, .int .i64 0, .int .i64 0, .int .i64 0]) := (hb2.block _ hszr).trans HY.out
                  clear hb2
                  go_wp2_with (refine wpList_store_row rfl 79 _ _ rfl w.heap.size #[.int .u8 0, .string ⟨#[]⟩, .int .i64 0, .int .i64 0, .int .i64 0, .int .i64 (i : Nat), .int .i64 2] rfl rfl 79 _ HY2.out (by kernel_rfl) (by kernel_rfl) (by kernel_rfl) ?_)
                  refine bodyPost_ret (results_cell_row rfl _ _ w.heap.size 79 #[.int .u8 0, .string ⟨#[]⟩, .int .i64 0, .int .i64 0, .int .i64 0, .int .i64 (i : Nat), .int .i64 2] (0, 0) _ rfl (setRow_heap _ w.heap.size _ _ 79 _ HY2.out) Try.underlying79 rfl (by kernel_rfl)) rfl ⟨by rw [HR.out]; rfl, below_setRow HB2.out (Nat.le_refl _) _⟩
                · have HR2 : Hid (R = textL s i nx (b ++ [UInt8.ofNat x])) := by rw [HS4.out, if_neg (fun h => hmx (HM.out.trans h))]; exact rfl
                  have hbm : ((m : Int) == 4095) = false := by rw [beq_eq_false_iff_ne]; omega
                  have HX2 : Hid (bcells (b ++ [UInt8.ofNat x]) = bcells b ++ [.int .u8 (x : Nat)]) := by rw [bcells_append]; exact congrArg (fun z => bcells b ++ [Value.int .u8 ((z : Nat) : Int)]) (by first | rfl | (rw [UInt8.toNat_ofNat']; exact Nat.mod_eq_of_lt (by omega)))
                  obtain ⟨hi0, hz0, hz1, hz2⟩ := HI.out
                  go_wp2_with fail
                  refine HEK.out.mono ?_
                  rintro e w2 ⟨rfl, hw2⟩
                  rw [hw2]
                  clear hw2 w2
                  go_wp2_with (at_builtin; refine wpList_append_own _ rfl (.tmp 61) (.tmp 63) 58 rfl (w.heap.size + 1) 5 i0 (.int .u8 0) 1 1 Try.underlying58 hi0 hz0 hz1 hz2 rfl (by decide) (.slice A m cap) m (bcells b) rfl (HO.out.alloc _) ⟨wr.heap.size, 0, none⟩ 1 1 [.int .u8 (x : Nat)] rfl rfl (cell_one_new _ _ _) (by intro u hu; rw [List.mem_singleton] at hu; subst hu; rfl) (by unfold maxLen; omega) (by omega) (by simp; omega) ?_; intro v3 w3 ho3 hg3 _; obtain ⟨A3, c3, rfl, _⟩ := own_form ho3; have HO3 := Lib.hid ho3; have HG3 := Lib.hid hg3; clear ho3 hg3)
                  have HL := Lib.hid (show (b ++ [UInt8.ofNat x]).length = m + 1 by rw [List.length_append, ← HM.out]; rfl)
                  go_wp2_with fail
                  go_roundw
                  case rel =>
                    refine ⟨nx, b ++ [UInt8.ofNat x], A3, c3, by go_num, by rw [HL.out], by omega, by omega, by rw [HL.out]; omega, HR2.out.symm, by rw [HL.out, HX2.out]; exact HO3.out, ?_, ?_⟩
                    · exact (HB.out.alloc HB.out.size _).grown HG3.out (by have := HB.out.size; simp; omega) (fun g hg => by have := (World.ownsRow.lt HO.out g hg).1; omega)
                    · exact (HY.out.alloc _).grown HG3.out (fun h => by have := (World.ownsRow.lt HO.out _ h.symm).1; omega)
                  case measure => simp [intOf]; omega
            · have hb92 : ((cv : Int) == 92) = false := by rw [beq_eq_false_iff_ne]; omega
              have HS4 : Hid (R = if b.length = 4095 then ([], 0, i, 2) else textL s i (k + 1) (b ++ [UInt8.ofNat cv])) := by
                have h := HS3.out
                unfold charL at h
                rw [if_neg (fun h => h92 (HCV.out.trans ((HE.out 92).1 h))), ← HCV.out] at h
                exact h
              clear HS3 h92
              by_cases hmx : m = 4095
              · have HR : Hid (textT s i = .inl (i, 2)) := by
                  have hR2 : R = ([], 0, i, 2) := by rw [HS4.out, if_pos (HM.out.symm.trans hmx)]
                  rw [HTT.out, hR2]; exact rfl
                have hbm : ((m : Int) == 4095) = true := by rw [hmx]; rfl
                clear hmx
                go_wp2_with fail
                refine (wrong_any (i) 2 wr).mono ?_
                rintro e w2 ⟨rfl, hb2⟩
                unfold told toldV
                have HB2 := Lib.hid (HBW.out.trans (hb2.mono HBW.out.size))
                have HY2 : Hid (Blk w2 w.heap.size 79 #[.int .u8 0, .string ⟨#[]⟩, .int .i64 0, .int .i64 0, .int .i64 0, .int .i64 0, .int .i64 0]) := (hb2.block _ hszr).trans HY.out
                clear hb2
                go_wp2_with (refine wpList_store_row rfl 79 _ _ rfl w.heap.size #[.int .u8 0, .string ⟨#[]⟩, .int .i64 0, .int .i64 0, .int .i64 0, .int .i64 (i : Nat), .int .i64 2] rfl rfl 79 _ HY2.out (by kernel_rfl) (by kernel_rfl) (by kernel_rfl) ?_)
                refine bodyPost_ret (results_cell_row rfl _ _ w.heap.size 79 #[.int .u8 0, .string ⟨#[]⟩, .int .i64 0, .int .i64 0, .int .i64 0, .int .i64 (i : Nat), .int .i64 2] (0, 0) _ rfl (setRow_heap _ w.heap.size _ _ 79 _ HY2.out) Try.underlying79 rfl (by kernel_rfl)) rfl ⟨by rw [HR.out]; rfl, below_setRow HB2.out (Nat.le_refl _) _⟩
              · have HR2 : Hid (R = textL s i (k + 1) (b ++ [UInt8.ofNat cv])) := by rw [HS4.out, if_neg (fun h => hmx (HM.out.trans h))]; exact rfl
                have hbm : ((m : Int) == 4095) = false := by rw [beq_eq_false_iff_ne]; omega
                have HX2 : Hid (bcells (b ++ [UInt8.ofNat cv]) = bcells b ++ [.int .u8 (cv : Nat)]) := by rw [bcells_append]; exact congrArg (fun z => bcells b ++ [Value.int .u8 ((z : Nat) : Int)]) (by first | rfl | (rw [UInt8.toNat_ofNat']; exact Nat.mod_eq_of_lt (by omega)))
                obtain ⟨hi0, hz0, hz1, hz2⟩ := HI.out
                go_wp2_with (at_builtin; refine wpList_append_own _ rfl (.tmp 61) (.tmp 63) 58 rfl (w.heap.size + 1) 5 i0 (.int .u8 0) 1 1 Try.underlying58 hi0 hz0 hz1 hz2 rfl (by decide) (.slice A m cap) m (bcells b) rfl (HO.out.alloc _) ⟨wr.heap.size, 0, none⟩ 1 1 [.int .u8 (cv : Nat)] rfl rfl (cell_one_new _ _ _) (by intro u hu; rw [List.mem_singleton] at hu; subst hu; rfl) (by unfold maxLen; omega) (by omega) (by simp; omega) ?_; intro v3 w3 ho3 hg3 _; obtain ⟨A3, c3, rfl, _⟩ := own_form ho3; have HO3 := Lib.hid ho3; have HG3 := Lib.hid hg3; clear ho3 hg3)
                have HL := Lib.hid (show (b ++ [UInt8.ofNat cv]).length = m + 1 by rw [List.length_append, ← HM.out]; rfl)
                go_wp2_with fail
                go_roundw
                case rel =>
                  refine ⟨(k + 1), b ++ [UInt8.ofNat cv], A3, c3, by go_num, by rw [HL.out], by omega, by omega, by rw [HL.out]; omega, HR2.out.symm, by rw [HL.out, HX2.out]; exact HO3.out, ?_, ?_⟩
                  · exact (HB.out.alloc HB.out.size _).grown HG3.out (by have := HB.out.size; simp; omega) (fun g hg => by have := (World.ownsRow.lt HO.out g hg).1; omega)
                  · exact (HY.out.alloc _).grown HG3.out (fun h => by have := (World.ownsRow.lt HO.out _ h.symm).1; omega)
                case measure => simp [intOf]; omega
    · have HR : Hid (textT s i = .inl (n, 4)) := by
        have h := HSTEP.out
        rw [List.getElem?_eq_none (by rw [← HN.out]; omega)] at h
        rw [HTT.out, h, HN.out]; exact rfl
      go_wp2_with fail
      refine (wrong_any (n) 4 wr).mono ?_
      rintro e w2 ⟨rfl, hb2⟩
      unfold told toldV
      have HB2 := Lib.hid (HBW.out.trans (hb2.mono HBW.out.size))
      have HY2 : Hid (Blk w2 w.heap.size 79 #[.int .u8 0, .string ⟨#[]⟩, .int .i64 0, .int .i64 0, .int .i64 0, .int .i64 0, .int .i64 0]) := (hb2.block _ hszr).trans HY.out
      clear hb2
      go_wp2_with (refine wpList_store_row rfl 79 _ _ rfl w.heap.size #[.int .u8 0, .string ⟨#[]⟩, .int .i64 0, .int .i64 0, .int .i64 0, .int .i64 (n : Nat), .int .i64 4] rfl rfl 79 _ HY2.out (by kernel_rfl) (by kernel_rfl) (by kernel_rfl) ?_)
      refine bodyPost_ret (results_cell_row rfl _ _ w.heap.size 79 #[.int .u8 0, .string ⟨#[]⟩, .int .i64 0, .int .i64 0, .int .i64 0, .int .i64 (n : Nat), .int .i64 4] (0, 0) _ rfl (setRow_heap _ w.heap.size _ _ 79 _ HY2.out) Try.underlying79 rfl (by kernel_rfl)) rfl ⟨by rw [HR.out]; rfl, below_setRow HB2.out (Nat.le_refl _) _⟩
end Go.Proofs.Ytbcadlocldplfaa
namespace Go.Proofs.Ytbcadlocldplfaa

theorem cut_scan (p : UInt8 → Bool) (s : List UInt8) (i : Nat) : cutL s i (scan p s i) = (s.drop i).takeWhile p := by
  unfold cutL scan
  rw [List.drop_take, Nat.add_sub_cancel_left]
  exact (List.prefix_iff_eq_take.1 (List.takeWhile_prefix p)).symm
theorem cut_all (p : UInt8 → Bool) (s : List UInt8) (i : Nat) : ∀ c ∈ cutL s i (scan p s i), p c = true := by
  rw [cut_scan]
  intro c hc
  have := List.all_takeWhile (l := s.drop i) (p := p)
  rw [List.all_eq_true] at this
  exact this c hc
theorem cut_len (p : UInt8 → Bool) (s : List UInt8) (i : Nat) : (cutL s i (scan p s i)).length = scan p s i - i := by
  rw [cut_scan]; unfold scan; omega

def valF (x : Nat) (l : List UInt8) : Nat := l.foldl (fun x c => 10 * x + (c.toNat - 48)) x
theorem valF_zero (l : List UInt8) : valF 0 l = val l := rfl
theorem valF_eq : ∀ (l : List UInt8) (x : Nat), valF x l = x * 10 ^ l.length + val l
  | [], x => by simp [valF, val]
  | c :: l, x => by
    have h1 : valF x (c :: l) = valF (10 * x + (c.toNat - 48)) l := rfl
    have h2 : val (c :: l) = valF (10 * 0 + (c.toNat - 48)) l := rfl
    rw [h1, h2, valF_eq l, valF_eq l, List.length_cons, Nat.pow_succ, Nat.add_mul, Nat.add_mul]
    have : 10 * x * 10 ^ l.length = x * (10 ^ l.length * 10) := by rw [Nat.mul_comm 10 x, Nat.mul_assoc, Nat.mul_comm 10]
    omega
theorem val_lt : ∀ (l : List UInt8), (∀ c ∈ l, digB c = true) → val l < 10 ^ l.length
  | [], _ => by simp [val]
  | c :: l, h => by
    have h2 : val (c :: l) = valF (10 * 0 + (c.toNat - 48)) l := rfl
    have hd := h c (by simp)
    unfold digB at hd
    have hc : 48 ≤ c.toNat ∧ c.toNat ≤ 57 := by simpa using hd
    have ih := val_lt l (fun d hd => h d (by simp [hd]))
    rw [h2, valF_eq, List.length_cons, Nat.pow_succ]
    obtain ⟨z, hz⟩ : ∃ z, z = 10 ^ l.length := ⟨_, rfl⟩
    rw [← hz] at ih ⊢
    have : (10 * 0 + (c.toNat - 48)) * z ≤ 9 * z := Nat.mul_le_mul_right _ (by omega)
    omega
theorem val_ge (c : UInt8) (l : List UInt8) (hc : 49 ≤ c.toNat) : 10 ^ l.length ≤ val (c :: l) := by
  have h2 : val (c :: l) = valF (10 * 0 + (c.toNat - 48)) l := rfl
  rw [h2, valF_eq]
  have : 1 * 10 ^ l.length ≤ (10 * 0 + (c.toNat - 48)) * 10 ^ l.length := Nat.mul_le_mul_right _ (by omega)
  omega
theorem less_val : ∀ (a b : List UInt8), a.length = b.length → (∀ c ∈ a, digB c = true) → (∀ c ∈ b, digB c = true) → Op.bytesLess a b = decide (val a < val b)
  | [], [], _, _, _ => by simp [Op.bytesLess, val]
  | [], _ :: _, h, _, _ => by simp at h
  | _ :: _, [], h, _, _ => by simp at h
  | c :: a, d :: b, h, ha, hb => by
    have hl : a.length = b.length := by simpa using h
    have ih := less_val a b hl (fun x hx => ha x (by simp [hx])) (fun x hx => hb x (by simp [hx]))
    have h1 : val (c :: a) = valF (10 * 0 + (c.toNat - 48)) a := rfl
    have h2 : val (d :: b) = valF (10 * 0 + (d.toNat - 48)) b := rfl
    have hc0 := ha c (by simp)
    have hd0 := hb d (by simp)
    unfold digB at hc0 hd0
    have hc : 48 ≤ c.toNat ∧ c.toNat ≤ 57 := by simpa using hc0
    have hd : 48 ≤ d.toNat ∧ d.toNat ≤ 57 := by simpa using hd0
    have la := val_lt a (fun x hx => ha x (by simp [hx]))
    have lb := val_lt b (fun x hx => hb x (by simp [hx]))
    rw [Op.bytesLess, ih, h1, h2, valF_eq, valF_eq, ← hl]
    rw [← hl] at lb
    obtain ⟨z, hz⟩ : ∃ z, z = 10 ^ a.length := ⟨_, rfl⟩
    rw [← hz] at la lb ⊢
    rcases Nat.lt_trichotomy c.toNat d.toNat with hlt | heq | hgt
    · have e1 : decide (c < d) = true := decide_eq_true (UInt8.lt_iff_toNat_lt.2 hlt)
      have e2 : (10 * 0 + (c.toNat - 48) + 1) * z ≤ (10 * 0 + (d.toNat - 48)) * z := Nat.mul_le_mul_right _ (by omega)
      rw [Nat.add_mul] at e2
      rw [e1, Bool.true_or]
      exact (decide_eq_true (by omega)).symm
    · have e0 : c = d := UInt8.toNat_inj.1 heq
      subst e0
      have e1 : decide (c < c) = false := decide_eq_false (fun h => by have := UInt8.lt_iff_toNat_lt.1 h; omega)
      rw [e1, beq_self_eq_true, Bool.false_or, Bool.true_and, Bool.eq_iff_iff]
      simp
    · have e1 : decide (c < d) = false := decide_eq_false (fun h => by have := UInt8.lt_iff_toNat_lt.1 h; omega)
      have e3 : (c == d) = false := by rw [beq_eq_false_iff_ne]; intro h; subst h; omega
      have e2 : (10 * 0 + (d.toNat - 48) + 1) * z ≤ (10 * 0 + (c.toNat - 48)) * z := Nat.mul_le_mul_right _ (by omega)
      rw [Nat.add_mul] at e2
      rw [e1, e3, Bool.false_and, Bool.or_self]
      exact (decide_eq_false (by omega)).symm

abbrev most19 : List UInt8 := [57, 50, 50, 51, 51, 55, 50, 48, 51, 54, 56, 53, 52, 55, 55, 53, 56, 48, 55]
theorem val_most : val most19 = 9223372036854775807 := by rfl
theorem most_dig : ∀ c ∈ most19, digB c = true := by decide
/-- Is a text of 19 digits greater than the greatest number's? -/
def bigB (l : List UInt8) : Bool := !(Op.bytesLess l most19 || l == most19)
theorem big_iff {l : List UInt8} (hl : l.length = 19) (hd : ∀ c ∈ l, digB c = true) : bigB l = decide (9223372036854775807 < val l) := by
  have h1 := less_val l most19 (by rw [hl]; rfl) hd most_dig
  have h2 := less_val most19 l (by rw [hl]; rfl) most_dig hd
  rw [val_most] at h1 h2
  unfold bigB
  rw [h1]
  by_cases he : l = most19
  · subst he
    rw [val_most]; simp
  · have he' : (l == most19) = false := by rw [beq_eq_false_iff_ne]; exact he
    have hne : val l ≠ 9223372036854775807 := by
      intro hv
      apply he
      have key : ∀ (a b : List UInt8), a.length = b.length → (∀ c ∈ a, digB c = true) → (∀ c ∈ b, digB c = true) → val a = val b → a = b := by
        intro a
        induction a with
        | nil => intro b h _ _ _; cases b with
          | nil => rfl
          | cons _ _ => simp at h
        | cons c a ih =>
          intro b h ha hb hv
          cases b with
          | nil => simp at h
          | cons d b =>
            have hl : a.length = b.length := by simpa using h
            have h1 : val (c :: a) = valF (10 * 0 + (c.toNat - 48)) a := rfl
            have h2 : val (d :: b) = valF (10 * 0 + (d.toNat - 48)) b := rfl
            have hc0 := ha c (by simp)
            have hd0 := hb d (by simp)
            unfold digB at hc0 hd0
            have hc : 48 ≤ c.toNat ∧ c.toNat ≤ 57 := by simpa using hc0
            have hd : 48 ≤ d.toNat ∧ d.toNat ≤ 57 := by simpa using hd0
            have la := val_lt a (fun x hx => ha x (by simp [hx]))
            have lb := val_lt b (fun x hx => hb x (by simp [hx]))
            rw [h1, h2, valF_eq, valF_eq, ← hl] at hv
            rw [← hl] at lb
            obtain ⟨z, hz⟩ : ∃ z, z = 10 ^ a.length := ⟨_, rfl⟩
            rw [← hz] at la lb hv
            rcases Nat.lt_trichotomy c.toNat d.toNat with hlt | heq | hgt
            · have e2 : (10 * 0 + (c.toNat - 48) + 1) * z ≤ (10 * 0 + (d.toNat - 48)) * z := Nat.mul_le_mul_right _ (by omega)
              rw [Nat.add_mul] at e2
              omega
            · have e0 : c = d := UInt8.toNat_inj.1 heq
              subst e0
              rw [ih b hl (fun x hx => ha x (by simp [hx])) (fun x hx => hb x (by simp [hx])) (by omega)]
            · have e2 : (10 * 0 + (d.toNat - 48) + 1) * z ≤ (10 * 0 + (c.toNat - 48)) * z := Nat.mul_le_mul_right _ (by omega)
              rw [Nat.add_mul] at e2
              omega
      exact key l most19 (by rw [hl]; rfl) hd most_dig (by rw [hv, val_most])
    rw [he', Bool.or_false, Bool.eq_iff_iff]
    simp
    omega

section
variable {s : List UInt8} {i E : Nat}
theorem big_long (hE : scan digB s i = E) (h48 : s[i]? ≠ some 48) (h : 19 < E - i) : 9223372036854775807 < val (cutL s i E) := by
  have hl := cut_len digB s i
  have ha := cut_all digB s i
  rw [hE] at hl ha
  cases hc : cutL s i E with
  | nil => rw [hc] at hl; simp at hl; omega
  | cons c l =>
    rw [hc] at hl ha
    have hs : s[i]? = some c := by
      have h0 : (cutL s i E)[0]? = some c := by rw [hc]; rfl
      unfold cutL at h0
      rw [List.getElem?_drop, List.getElem?_take] at h0
      split at h0
      · simpa using h0
      · cases h0
    have hd := ha c (by simp)
    unfold digB at hd
    have hcc : 48 ≤ c.toNat ∧ c.toNat ≤ 57 := by simpa using hd
    have hne : c.toNat ≠ 48 := fun h => h48 (by rw [hs]; exact congrArg some (UInt8.toNat_inj.1 (by rw [h]; rfl)))
    have hv := val_ge c l (by omega)
    have hl2 : 19 ≤ l.length := by simp at hl; omega
    have hp : 10 ^ 19 ≤ 10 ^ l.length := Nat.pow_le_pow_right (by omega) hl2
    have : (9223372036854775807 : Nat) < 10 ^ 19 := by decide
    omega
theorem big_19 (hE : scan digB s i = E) (h : E - i = 19) : bigB (cutL s i E) = decide (9223372036854775807 < val (cutL s i E)) := by
  have hl := cut_len digB s i
  have ha := cut_all digB s i
  rw [hE] at hl ha
  exact big_iff (by rw [hl, h]) ha
theorem big_short (hE : scan digB s i = E) (h : E - i < 19) : val (cutL s i E) ≤ 9223372036854775807 := by
  have hl := cut_len digB s i
  have ha := cut_all digB s i
  rw [hE] at hl ha
  have hv := val_lt _ ha
  rw [hl] at hv
  have hp : 10 ^ (E - i) ≤ 10 ^ 18 := Nat.pow_le_pow_right (by omega) (by omega)
  have : (10 ^ 18 : Nat) ≤ 9223372036854775807 := by decide
  omega
end
end Go.Proofs.Ytbcadlocldplfaa
