/- The contract of 'fresh': how many unlike names stand behind a place. -/
import Derived.Deep.QuietTactic
import Derived.BigQuiet
import Derived.Test.YtnipmhidiiondaaLst
namespace Go.Proofs.Ytnipmhidiiondaa
open Go.RowKit Go.Maps

theorem dn_le (x : ByteArray) : ∀ (ys : List ByteArray) (s : Nat × List ByteArray), dn x ys s ≤ s.1 + ys.length
  | [], s => by simp [dn]
  | y :: ys, s => by
    unfold dn
    refine Nat.le_trans (dn_le x ys _) ?_
    simp only [List.length_cons]
    split <;> omega
theorem dcnt_le (x : ByteArray) (ys : List ByteArray) : dcnt x ys ≤ ys.length := by
  have := dn_le x ys (0, [])
  unfold dcnt
  omega
/-- What stands behind a place, as far as another one. -/
def seg (l : List ByteArray) (s k : Nat) : List ByteArray := (l.drop s).take (k - s)
theorem seg_nil (l : List ByteArray) (s : Nat) : seg l s s = [] := by unfold seg; simp
theorem seg_snoc {l : List ByteArray} {s k : Nat} {y : ByteArray} (hs : s ≤ k) (h : l[k]? = some y) : seg l s (k + 1) = seg l s k ++ [y] := by
  unfold seg
  rw [show k + 1 - s = (k - s) + 1 by omega, List.take_add_one, List.getElem?_drop, show s + (k - s) = k by omega, h]; rfl
theorem seg_len (l : List ByteArray) (s k : Nat) : (seg l s k).length ≤ k - s := by unfold seg; rw [List.length_take]; omega
theorem seg_end {l : List ByteArray} (s : Nat) : seg l s l.length = l.drop s := by unfold seg; rw [List.take_of_length_le (by rw [List.length_drop]; omega)]
/-- Is a name of the other ones, and not met before? -/
def fb (x y : ByteArray) (zs : List ByteArray) : Bool := decide (y ≠ x ∧ y ∉ zs)
theorem fb_nil (x y : ByteArray) : fb x y [] = !(y.toList == x.toList) := by
  unfold fb
  cases h : (y.toList == x.toList)
  · exact decide_eq_true ⟨bytes_ne h, by simp⟩
  · exact decide_eq_false (fun e => e.1 (bytes_eq h))
theorem fb_snoc (x y z : ByteArray) (zs : List ByteArray) : fb x y (zs ++ [z]) = (fb x y zs && !(z.toList == y.toList)) := by
  unfold fb
  cases h : (z.toList == y.toList)
  · have := bytes_ne h
    have h2 : ¬ y = z := fun e => this e.symm
    by_cases h1 : y ≠ x ∧ y ∉ zs
    · rw [decide_eq_true h1, decide_eq_true (show y ≠ x ∧ y ∉ zs ++ [z] from ⟨h1.1, by simp [h1.2, h2]⟩)]; rfl
    · rw [decide_eq_false h1, decide_eq_false (fun e => h1 ⟨e.1, fun hm => e.2 (by simp [hm])⟩)]; rfl
  · have := bytes_eq h
    rw [decide_eq_false (fun e => e.2 (by simp [this]))]; simp
theorem dcnt_seg {l : List ByteArray} {s k : Nat} {x y : ByteArray} (hs : s ≤ k) (h : l[k]? = some y) : dcnt x (seg l s (k + 1)) = dcnt x (seg l s k) + (if fb x y (seg l s k) = true then 1 else 0) := by
  rw [seg_snoc hs h, dcnt_snoc]
  unfold fb
  simp only [decide_eq_true_eq]

set_option maxHeartbeats 2000000 in
theorem fresh_any (A : Option Addr) (ca n at_ : Nat) (l : List ByteArray) (x : ByteArray) (w : World) (hl : RdT w A l) (hn : n = l.length) (hn1 : n ≤ 100000) (hx : l[at_]? = some x) :
    Calls Try.prog 13 #[.slice A n ca, .int .i64 (at_ : Nat)] w fun e w' => e = .returned (.int .i64 (dcnt x (l.drop (at_ + 1)) : Nat)) ∧ ∃ q, w' = w.drewN q := by
  obtain ⟨b, o, rfl, h1⟩ : ∃ b off, A = some ⟨b, off, none⟩ ∧ ∀ k s, l[k]? = some s → w.cell? ⟨b, off + k, none⟩ = some (.string s) := hl.resolve_left (fun h => by rw [h] at hx; cases hx)
  have hat : at_ < n := by rw [hn]; exact (List.getElem?_eq_some_iff.1 hx).1
  have HH := Lib.hid h1
  have HN := Lib.hid hn
  have HX := Lib.hid hx
  clear hl hn hx h1
  have ha0 : (0 : Int) ≤ (at_ : Int) := by omega
  have han : (at_ : Int) < (n : Int) := by omega
  go_enter Try.func13, Try.ntmps13
  go_wp2_with fail
  go_loopw [5, 6] (fun s5 s6 wr => ∃ i : Nat, s6 = .int .i64 i ∧ at_ + 1 ≤ i ∧ i ≤ n ∧ s5 = .int .i64 (dcnt x (seg l (at_ + 1) i) : Nat) ∧ ∃ q, wr = w.drewN q) (fun _ s6 _ => n - (intOf s6).toNat)
  case atStart => exact ⟨at_ + 1, by go_num, by omega, by omega, by rw [seg_nil]; rfl, 0, rfl⟩
  case round =>
    obtain ⟨i, rfl, hi1, hi2, rfl, q, hw⟩ := hrel
    have HW := Lib.hid hw
    clear hw
    obtain ⟨cn, hcn⟩ : ∃ cn, cn = dcnt x (seg l (at_ + 1) i) := ⟨_, rfl⟩
    rw [← hcn]
    have hcb : cn ≤ 100000 := by rw [hcn]; have := dcnt_le x (seg l (at_ + 1) i); have := seg_len l (at_ + 1) i; omega
    have HC := Lib.hid hcn
    clear hcn
    by_cases hlt : i < n
    · have hd1 : decide ((i : Int) < (n : Int)) = true := decide_eq_true (by omega)
      obtain ⟨y, hy⟩ : ∃ y, l[i]? = some y := ⟨_, List.getElem?_eq_getElem (by rw [← HN.out]; exact hlt)⟩
      have c1 : wr.cell? ⟨b, o + i, none⟩ = some (.string y) := by rw [HW.out]; exact HH.out i y hy
      have c2 : wr.cell? ⟨b, o + at_, none⟩ = some (.string x) := by rw [HW.out]; exact HH.out at_ x HX.out
      have HY := Lib.hid hy
      have hi0 : (0 : Int) ≤ (i : Int) := by omega
      have hin : (i : Int) < (n : Int) := by omega
      clear hy
      obtain ⟨f0, hf0⟩ : ∃ f0, f0 = (y.toList == x.toList) := ⟨_, rfl⟩
      have HF0 : Hid (fb x y [] = !f0) := by rw [hf0]; exact fb_nil x y
      have hf0' := hf0.symm
      clear hf0
      go_wp2_with fail
      go_quiet (fail)
      go_wp2_with fail
      obtain ⟨wo, rfl⟩ : ∃ wo : World, wo = wr := ⟨_, rfl⟩
      go_loopw [7, 8] (fun s7 s8 wi => ∃ k : Nat, s8 = .int .i64 k ∧ at_ + 1 ≤ k ∧ k ≤ i ∧ s7 = .bool (fb x y (seg l (at_ + 1) k)) ∧ ∃ q, wi = w.drewN q) (fun _ s8 _ => i - (intOf s8).toNat)
      case atStart => exact ⟨at_ + 1, by go_num, by omega, by omega, by rw [seg_nil, HF0.out], q + nq, by rw [HW.out]; exact drewN_twice w q nq⟩
      case round =>
        clear c1 c2 hf0'
        obtain ⟨k, rfl, hk1, hk2, rfl, q2, hw2⟩ := hrel
        have HW2 := Lib.hid hw2
        clear hw2
        by_cases hki : k < i
        · have hd2 : decide ((k : Int) < (i : Int)) = true := decide_eq_true (by omega)
          have hk0 : (0 : Int) ≤ (k : Int) := by omega
          have hkn : (k : Int) < (n : Int) := by omega
          obtain ⟨z, hz⟩ : ∃ z, l[k]? = some z := ⟨_, List.getElem?_eq_getElem (by rw [← HN.out]; omega)⟩
          have c3 : wr.cell? ⟨b, o + k, none⟩ = some (.string z) := by rw [HW2.out]; exact HH.out k z hz
          have c4 : wr.cell? ⟨b, o + i, none⟩ = some (.string y) := by rw [HW2.out]; exact HH.out i y HY.out
          have HZ : Hid (fb x y (seg l (at_ + 1) (k + 1)) = (fb x y (seg l (at_ + 1) k) && !(z.toList == y.toList))) := by rw [seg_snoc hk1 hz, fb_snoc]; exact rfl
          clear hz
          obtain ⟨f0, hf0⟩ : ∃ f0, f0 = (z.toList == y.toList) := ⟨_, rfl⟩
          rw [← hf0] at HZ
          have hf0' := hf0.symm
          clear hf0
          cases hfb : fb x y (seg l (at_ + 1) k)
          · rw [hfb] at HZ
            clear hfb
            go_wp2_with fail
            go_quiet (fail)
            go_wp2_with fail
            go_roundw
            case rel => exact ⟨k + 1, by go_num, by omega, by omega, by rw [HZ.out]; rfl, q2 + nq, by rw [HW2.out]; exact drewN_twice w q2 nq⟩
            case measure => simp [intOf]; omega
          · rw [hfb] at HZ
            clear hfb
            go_wp2_with fail
            go_quiet (fail)
            go_wp2_with fail
            go_roundw
            case rel => exact ⟨k + 1, by go_num, by omega, by omega, by rw [HZ.out]; rfl, q2 + nq, by rw [HW2.out]; exact drewN_twice w q2 nq⟩
            case measure => simp [intOf]; omega
        · have hd2 : decide ((k : Int) < (i : Int)) = false := decide_eq_false (by omega)
          have hke : k = i := by omega
          subst hke
          have HD := Lib.hid (dcnt_seg (x := x) hk1 HY.out)
          cases hfb : fb x y (seg l (at_ + 1) k)
          · rw [hfb] at HD
            clear hfb
            go_wp2_with fail
            go_roundw
            case rel => exact ⟨k + 1, by go_num, by omega, by omega, by rw [HD.out, ← HC.out]; rfl, q2, HW2.out⟩
            case measure => simp [intOf]; omega
          · rw [hfb] at HD
            clear hfb
            go_wp2_with fail
            go_roundw
            case rel => exact ⟨k + 1, by go_num, by omega, by omega, by rw [HD.out, ← HC.out]; go_num, q2, HW2.out⟩
            case measure => simp [intOf]; omega
    · have hd1 : decide ((i : Int) < (n : Int)) = false := decide_eq_false (by omega)
      have HE : Hid (cn = dcnt x (l.drop (at_ + 1))) := by rw [HC.out, show i = l.length by rw [← HN.out]; omega, seg_end]; exact rfl
      go_wp2_with fail
      go_ret
      exact ⟨by rw [HE.out]; rfl, q, HW.out⟩
end Go.Proofs.Ytnipmhidiiondaa
