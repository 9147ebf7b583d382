/- Tokens that came in: any at all; how they lie in memory. And what follows from it. -/
import Derived.Deep.Slices
import Derived.Deep.Fields
import Derived.ChangeSame
import Derived.ProofKit
import Derived.OpenShut
import Derived.Test.YtbcadlocldplfaaDoorChecked
import Derived.Shelf.Strconv.Itoa3
import Derived.Outline
import Derived.Deep.DeepCutAuto
import Derived.Deep.MidRow
import Derived.Shelf.Strings.Builder1
import Derived.Shelf.Small.Strs
import Derived.Shelf.Strconv.Itoa0
import Derived.Shelf.Strconv.Itoa1
import Derived.Shelf.LaysM
import Derived.Shelf.Strconv.Itoa2
import Derived.Shelf.Strconv.Itoa4
import Derived.Shelf.Strings.Search1
import Derived.Test.YtbcadlocldplfaaDoorProg
import Derived.Lib.AppendStr
import Derived.Lib.UnsafeStr
import Derived.WalkKit
import Derived.Laws.Externs
import Derived.Sort.Grow
import Derived.Test.YtbcadlocldplfaaDoorQla
import Derived.Test.YtbcadlocldplfaaDoorQle
set_option linter.unusedSimpArgs false
set_option linter.unusedVariables false
namespace Go.Proofs.YtbcadlocldplfaaDoor.T7
open Go.ChangeShapes Go.WideShapes Go.ChangeAt Go.RowKit Go.Deep
structure Tz where
  kind : Nat
  text : ByteArray
  int : Int
  at_ : Int
def zcell (x : Tz) : List Value := [.int .u8 (x.kind : Nat), .string x.text, .int .i64 x.int, .int .i64 x.at_]
theorem zcell_len (x : Tz) : (zcell x).length = 4 := rfl
theorem zcell_one (x : Tz) : ∀ u ∈ zcell x, u.oneCell' = true := by
  intro u hu
  simp only [zcell, List.mem_cons, List.not_mem_nil, or_false] at hu
  rcases hu with rfl | rfl | rfl | rfl <;> rfl
structure TzOk (x : Tz) : Prop where
  k : x.kind < 256
  t : x.text.size ≤ 9223372036854775807
  i : -9223372036854775808 ≤ x.int ∧ x.int ≤ 9223372036854775807
abbrev RdZ := RdL zcell 4
theorem toks_at {w : World} {A : Option Addr} {l : List Tz} (h : RdZ w A l) {k : Nat} {x : Tz} (hx : l[k]? = some x) :
    ∃ b off, A = some ⟨b, off, none⟩ ∧ b < w.heap.size ∧ ∀ j v, (zcell x)[j]? = some v → w.cell? ⟨b, off + k * 4 + j, none⟩ = some v := by
  rcases h with h | ⟨b, off, hA, hb, hat⟩
  · rw [h] at hx; simp at hx
  · exact ⟨b, off, hA, hb, fun j v hj => hat k x hx j v hj⟩
theorem bytes_of_list {a b : ByteArray} (h : a.toList = b.toList) : a = b := by
  rw [ByteArray.toList_eq, ByteArray.toList_eq] at h
  obtain ⟨⟨x⟩⟩ := a
  obtain ⟨⟨y⟩⟩ := b
  have : x = y := h
  rw [this]
end Go.Proofs.YtbcadlocldplfaaDoor.T7
namespace Go.Proofs.YtbcadlocldplfaaDoor.T7
def sgn17 : List (List UInt8) := [[40], [41], [123], [125], [91], [93], [44], [61], [60], [43], [45], [42], [47], [37], [61, 61], [33, 61], [60, 61]]
def Tz.tx (x : Tz) : List UInt8 := x.text.data.toList
def wordOk : List UInt8 → Bool
  | [] => false
  | c :: r => decide ((c :: r).length ≤ 24) && lowB c && (c :: r).all innB
def rightB (x : Tz) : Bool :=
  if x.kind = 1 then wordOk x.tx && decide (x.int = 0) else if x.kind = 2 then decide (x.tx = []) && decide (0 ≤ x.int) else if x.kind = 3 then decide (x.tx.length ≤ 4095) && decide (x.int = 0)
  else if x.kind = 4 then decide (x.tx ∈ sgn17) && decide (x.int = 0) else false
def hx (n : Nat) : UInt8 := UInt8.ofNat (if n < 10 then 48 + n else 87 + n)
def q1 (c : UInt8) : List UInt8 :=
  if c = 34 ∨ c = 92 then [92, c] else if c = 10 then [92, 110] else if c.toNat < 32 ∨ 126 < c.toNat then [92, 120, hx (c.toNat / 16), hx (c.toNat % 16)] else [c]
def quoteL (s : List UInt8) : List UInt8 := 34 :: (s.flatMap q1 ++ [34])
def spellT (x : Tz) : List UInt8 := if x.kind = 2 then Lib.itoa x.int else if x.kind = 3 then quoteL x.tx else x.tx
def spF : Bool → List Tz → List UInt8
  | _, [] => []
  | f, x :: r => (if f then [32] else []) ++ spellT x ++ spF true r
theorem spF_append (f : Bool) (l : List Tz) (x : Tz) : spF f (l ++ [x]) = spF f l ++ ((if f || !l.isEmpty then [32] else []) ++ spellT x) := by
  induction l generalizing f with
  | nil => simp [spF]
  | cons y l ih =>
    rw [List.cons_append, spF, ih true, spF]
    simp
theorem q1_len (c : UInt8) : (q1 c).length ≤ 4 := by
  unfold q1
  split
  · exact (show 2 ≤ 4 by omega)
  · split
    · exact (show 2 ≤ 4 by omega)
    · split
      · exact (show 4 ≤ 4 by omega)
      · exact (show 1 ≤ 4 by omega)
theorem quote_len (s : List UInt8) : (quoteL s).length ≤ 4 * s.length + 2 := by
  have h : ∀ s : List UInt8, (s.flatMap q1).length ≤ 4 * s.length := fun s => by
    induction s with
    | nil => simp
    | cons c s ih => have := q1_len c; rw [List.flatMap_cons, List.length_append, List.length_cons]; omega
  have := h s
  unfold quoteL
  rw [List.length_cons, List.length_append, List.length_singleton]
  omega
def spellL (l : List Tz) : List UInt8 × Nat := if l.all rightB then (if 16384 < (spF false l).length then ([], 2) else (spF false l, 0)) else ([], 3)
end Go.Proofs.YtbcadlocldplfaaDoor.T7
namespace Go.Proofs.YtbcadlocldplfaaDoor.T7
set_option maxRecDepth 100000
open Go.RowKit
set_option maxRecDepth 100000 in
set_option maxHeartbeats 8000000 in
theorem right_any (x : Tz) (w : World) (hx : TzOk x) : Calls Tryd.prog 44 #[.agg (zcell x).toArray] w fun e w' => e = .returned (.bool (rightB x)) ∧ Below w.heap.size w w' := by
  obtain ⟨R, hR⟩ : ∃ R, R = rightB x := ⟨_, rfl⟩
  have HR := Lib.hid hR
  rw [← hR]
  clear hR
  obtain ⟨kd, st, iv, pl⟩ := x
  dsimp only [zcell]
  have hk9 := hx.k
  have ht := hx.t
  dsimp only at hk9 ht
  clear hx
  have H1 : Hid (Below w.heap.size w (w.alloc (.cells #[.int .u8 (kd : Nat), .string st, .int .i64 iv, .int .i64 pl] 35)) ∧ Blk (w.alloc (.cells #[.int .u8 (kd : Nat), .string st, .int .i64 iv, .int .i64 pl] 35)) w.heap.size 35 #[.int .u8 (kd : Nat), .string st, .int .i64 iv, .int .i64 pl]) := Lib.hid ⟨(Below.refl _ _).alloc (Nat.le_refl _) _, Blk.new _ _ _⟩
  go_enter Tryd.func44, Tryd.ntmps44
  go_upto_region 1 with fail
  generalize w.alloc (.cells #[.int .u8 (kd : Nat), .string st, .int .i64 iv, .int .i64 pl] 35) = w1 at *
  have c0 : w1.cell? ⟨w.heap.size, 0, none⟩ = some (.int .u8 (kd : Nat)) := H1.out.2.cell 0
  have c3 : w1.cell? ⟨w.heap.size, 3, none⟩ = some (.int .i64 pl) := H1.out.2.cell 3
  have HB0 : Hid (Blk (w1.alloc (.cells #[.int .u8 0, .string ⟨#[]⟩, .int .i64 0, .int .i64 0] 35)) w1.heap.size 35 #[.int .u8 0, .string ⟨#[]⟩, .int .i64 0, .int .i64 0]) := Lib.hid (Blk.new w1 _ _)
  have H2 : Hid (Below w1.heap.size w1 (w1.alloc (.cells #[.int .u8 (kd : Nat), .string ⟨#[]⟩, .int .i64 0, .int .i64 pl] 35)) ∧ Blk (w1.alloc (.cells #[.int .u8 (kd : Nat), .string ⟨#[]⟩, .int .i64 0, .int .i64 pl] 35)) w1.heap.size 35 #[.int .u8 (kd : Nat), .string ⟨#[]⟩, .int .i64 0, .int .i64 pl]) := Lib.hid ⟨(Below.refl _ _).alloc (Nat.le_refl _) _, Blk.new _ _ _⟩
  go_upto_region 2 with (first | (refine wpList_store_row rfl 35 (.tmp 3) (.tmp 9) rfl w1.heap.size #[.int .u8 (kd : Nat), .string ⟨#[]⟩, .int .i64 0, .int .i64 pl] rfl rfl 35 #[.int .u8 0, .string ⟨#[]⟩, .int .i64 0, .int .i64 0] HB0.out (by kernel_rfl) rfl (by kernel_rfl) ?_; rw [World.setRow_alloc_new]) | fail)
  have HS1 : Hid (w.heap.size ≤ w1.heap.size ∧ w.heap.size < w1.heap.size) := Lib.hid ⟨H1.out.1.size, H1.out.2.lt⟩
  generalize hb3 : w1.heap.size = b3 at *
  generalize w1.alloc (.cells #[.int .u8 (kd : Nat), .string ⟨#[]⟩, .int .i64 0, .int .i64 pl] 35) = w2 at *
  obtain ⟨b1, hb1⟩ : ∃ b, b = w.heap.size := ⟨_, rfl⟩
  have HW2 : Hid (Below w.heap.size w w2 ∧ Blk w2 b1 35 #[.int .u8 (kd : Nat), .string st, .int .i64 iv, .int .i64 pl] ∧ Blk w2 b3 35 #[.int .u8 (kd : Nat), .string ⟨#[]⟩, .int .i64 0, .int .i64 pl]) := Lib.hid ⟨H1.out.1.trans (H2.out.1.mono HS1.out.1), by rw [hb1]; exact H1.out.2.below (by rw [hb3]; exact H2.out.1) H1.out.2.lt, H2.out.2⟩
  have HN : Hid (b3 ≠ b1 ∧ w.heap.size ≤ b3) := Lib.hid ⟨by have := HS1.out.2; omega, HS1.out.1⟩
  have HG := Lib.hid hb1
  rw [← hb1]
  clear hb1 c0 c3 HB0 H1 H2 HS1 hb3
  have k0 : w2.cell? ⟨b1, 0, none⟩ = some (.int .u8 (kd : Nat)) := HW2.out.2.1.cell 0
  by_cases hk1 : kd = 1
  · have hk := hk1
    have m1 : ((kd : Int) == 1) = true := by simp [hk]
    have d1 : w2.cell? ⟨b1, 1, none⟩ = some (.string st) := HW2.out.2.1.cell 1
    have f1 : w2.frozen? ⟨b3, 1, none⟩ = false := HW2.out.2.2.frozen 1
    have g1 : w2.cell? ⟨b3, 1, none⟩ = some (.string ⟨#[]⟩) := HW2.out.2.2.cell 1
    have HW3 : Hid (Below w.heap.size w (w2.setCell ⟨b3, 1, none⟩ (.string st)) ∧ Blk (w2.setCell ⟨b3, 1, none⟩ (.string st)) b1 35 #[.int .u8 (kd : Nat), .string st, .int .i64 iv, .int .i64 pl] ∧ Blk (w2.setCell ⟨b3, 1, none⟩ (.string st)) b3 35 #[.int .u8 (kd : Nat), .string st, .int .i64 0, .int .i64 pl]) := Lib.hid ⟨HW2.out.1.setCell (p := ⟨b3, 1, none⟩) HN.out.2 _, Blk.chg HW2.out.2.1 (Chg.setCell (T := fun b => b = b3) (Chg.refl _ _) (p := ⟨b3, 1, none⟩) rfl _) (fun e => HN.out.1 e.symm), by
      have h1 := HW2.out.2.2.set_ 1 (.string st)
      simpa using h1⟩
    go_upto_region 6 with fail
    generalize w2.setCell ⟨b3, 1, none⟩ (.string st) = w3 at *
    clear d1 f1 g1 k0
    have k0 : w3.cell? ⟨b1, 0, none⟩ = some (.int .u8 (kd : Nat)) := HW3.out.2.1.cell 0
    have k1 : w3.cell? ⟨b1, 1, none⟩ = some (.string st) := HW3.out.2.1.cell 1
    have k2 : w3.cell? ⟨b1, 2, none⟩ = some (.int .i64 iv) := HW3.out.2.1.cell 2
    have k3 : w3.cell? ⟨b1, 3, none⟩ = some (.int .i64 pl) := HW3.out.2.1.cell 3
    have l0 : w3.cell? ⟨b3, 0, none⟩ = some (.int .u8 (kd : Nat)) := HW3.out.2.2.cell 0
    have l1 : w3.cell? ⟨b3, 1, none⟩ = some (.string st) := HW3.out.2.2.cell 1
    have l2 : w3.cell? ⟨b3, 2, none⟩ = some (.int .i64 0) := HW3.out.2.2.cell 2
    have l3 : w3.cell? ⟨b3, 3, none⟩ = some (.int .i64 pl) := HW3.out.2.2.cell 3
    obtain ⟨s, hs⟩ : ∃ s, s = st.data.toList := ⟨_, rfl⟩
    have HRK : Hid (R = (wordOk s && decide (iv = 0))) := Lib.hid (by rw [HR.out]; unfold rightB Tz.tx; dsimp only; rw [hk, hs]; rfl)
    have HST : Hid (st = ⟨s.toArray⟩) := Lib.hid (by rw [hs])
    obtain ⟨n, hn⟩ : ∃ n, n = st.size := ⟨_, rfl⟩
    have hsz : st.size = n := hn.symm
    have HN2 : Hid (s.length = n) := Lib.hid (by rw [hs, hn, Array.length_toList]; rfl)
    have HNE : Hid (n ≠ 0 → (st.toList == []) = false) := Lib.hid (fun h => by
      rw [beq_eq_false_iff_ne]
      intro h2
      rw [ByteArray.toList_eq, ← hs] at h2
      have := HN2.out
      rw [h2] at this
      exact h this.symm)
    have HEQ : Hid (n = 0 → (st.toList == []) = true) := Lib.hid (fun h => by
      rw [beq_iff_eq, ByteArray.toList_eq, ← hs]
      exact List.eq_nil_of_length_eq_zero (by have := HN2.out; omega))
    clear hn hs
    rw [hsz] at ht
    by_cases hn0 : n = 0
    · have e0 := HEQ.out hn0
      have HF : Hid (R = false) := Lib.hid (by rw [HRK.out, List.eq_nil_of_length_eq_zero (l := s) (by have := HN2.out; omega)]; rfl)
      clear hn0
      go_wp2_with fail
      go_ret
      exact ⟨ret_bool (by rw [HF.out]), HW3.out.1⟩
    have e0 := HNE.out hn0
    have h0s : 0 < s.length := by have := HN2.out; omega
    obtain ⟨c, r, hcr⟩ : ∃ c r, s = c :: r := by
      cases s with
      | nil => simp at h0s
      | cons c r => exact ⟨c, r, rfl⟩
    have HWD : Hid (wordOk s = (decide (s.length ≤ 24) && lowB c && s.all innB)) := Lib.hid (by rw [hcr]; rfl)
    by_cases h24 : 24 < n
    · have dl : decide ((n : Int) > 24) = true := decide_eq_true (by omega)
      have dl' : decide (24 < n) = true := decide_eq_true h24
      have HF : Hid (R = false) := Lib.hid (by rw [HRK.out, HWD.out, decide_eq_false (by have := HN2.out; omega)]; rfl)
      clear hcr h0s hn0
      go_wp2_with fail
      go_ret
      exact ⟨ret_bool (by rw [HF.out]), HW3.out.1⟩
    have dl : decide ((n : Int) > 24) = false := decide_eq_false (by omega)
    have dl' : decide (24 < n) = false := decide_eq_false h24
    have h0 : 0 < st.size := by omega
    have hg0 : st[0] = c := by
      rw [st_get HST.out h0 h0s]
      simp [hcr]
    have HWD2 : Hid (R = (lowB c && s.all innB && decide (iv = 0))) := Lib.hid (by rw [HRK.out, HWD.out, decide_eq_true (by have := HN2.out; omega), Bool.true_and])
    have n0 : (0 : Int) < (n : Int) := by omega
    clear hcr h0s HWD
    go_wp2_with fail
    refine (letter_any c w3).mono ?_
    rintro e w4 ⟨rfl, hw4⟩
    subst hw4
    cases hlow : lowB c
    · have HF : Hid (R = false) := Lib.hid (by rw [HWD2.out, hlow]; rfl)
      clear hlow
      go_wp2_with fail
      go_ret
      exact ⟨ret_bool (by rw [HF.out]), HW3.out.1⟩
    have HF : Hid (R = (s.all innB && decide (iv = 0))) := Lib.hid (by rw [HWD2.out, hlow]; rfl)
    clear hlow hg0 h0
    go_wp2_with fail
    go_loopw [36] (fun s36 wr => ∃ k : Nat, s36 = .int .i64 (k : Nat) ∧ k ≤ n ∧ (s.take k).all innB = true ∧ wr = w4) (fun s36 _ => n - (intOf s36).toNat)
    case atStart => exact ⟨0, rfl, by omega, by simp, rfl⟩
    case round =>
      obtain ⟨k, rfl, hkn, hall, rfl⟩ := hrel
      have HAL := Lib.hid hall
      clear hall
      by_cases hlt : k < n
      · have di : decide ((k : Int) < (n : Int)) = true := decide_eq_true (by omega)
        have hks : k < s.length := by have := HN2.out; omega
        obtain ⟨ch, hch⟩ : ∃ c, c = s[k] := ⟨_, rfl⟩
        have hkst : k < st.size := by omega
        have hg : st[k] = ch := by rw [hch]; exact st_get HST.out hkst hks
        have HTK : Hid (s.take (k + 1) = s.take k ++ [ch]) := Lib.hid (by rw [hch]; exact List.take_succ_eq_append_getElem hks)
        have HIN : Hid (innB ch = false → R = false) := Lib.hid (fun h => by
          rw [HF.out]
          have : s.all innB = false := by
            rw [List.all_eq_false]
            exact ⟨ch, by rw [hch]; exact List.getElem_mem hks, by rw [h]; decide⟩
          rw [this]; rfl)
        clear hch hks
        have k0' : (0 : Int) ≤ (k : Int) := by omega
        have k1' : (k : Int) < (n : Int) := by omega
        go_wp2_with fail
        refine (inner_any ch wr).mono ?_
        rintro e w5 ⟨rfl, hw5⟩
        subst hw5
        cases hin : innB ch
        · have HF2 : Hid (R = false) := Lib.hid (HIN.out hin)
          clear hin
          go_wp2_with fail
          go_ret
          exact ⟨ret_bool (by rw [HF2.out]), HW3.out.1⟩
        · have HA2 : Hid ((s.take (k + 1)).all innB = true) := Lib.hid (by rw [HTK.out, List.all_append, HAL.out]; simp [hin])
          clear hin
          go_wp2_with fail
          go_roundw
          case rel => exact ⟨k + 1, by go_num, by omega, HA2.out, by trivial⟩
          case measure => simp [intOf]; omega
      · have di : decide ((k : Int) < (n : Int)) = false := decide_eq_false (by omega)
        have HA2 : Hid (R = decide (iv = 0)) := Lib.hid (by
          have := HAL.out
          rw [List.take_of_length_le (by have := HN2.out; omega)] at this
          rw [HF.out, this]; rfl)
        by_cases hiv : iv = 0
        · have e1 : ((0 : Int) == iv) = true := by simp [hiv]
          go_wp2_with (first | (refine wpList_load_row rfl 35 (.tmp 3) rfl b3 rfl 35 #[.int .u8 (kd : Nat), .string st, .int .i64 0, .int .i64 pl] (0, 0) _ HW3.out.2.2 Tryd.underlying35 rfl (by kernel_rfl) ?_) | (refine wpList_load_row rfl 35 (.tmp 1) rfl b1 rfl 35 #[.int .u8 (kd : Nat), .string st, .int .i64 iv, .int .i64 pl] (0, 0) _ HW3.out.2.1 Tryd.underlying35 rfl (by kernel_rfl) ?_) | fail)
          go_ret
          exact ⟨ret_bool (by rw [HA2.out]; simp [hiv]), HW3.out.1⟩
        · have e1 : ((0 : Int) == iv) = false := by simp; omega
          go_wp2_with (first | (refine wpList_load_row rfl 35 (.tmp 3) rfl b3 rfl 35 #[.int .u8 (kd : Nat), .string st, .int .i64 0, .int .i64 pl] (0, 0) _ HW3.out.2.2 Tryd.underlying35 rfl (by kernel_rfl) ?_) | (refine wpList_load_row rfl 35 (.tmp 1) rfl b1 rfl 35 #[.int .u8 (kd : Nat), .string st, .int .i64 iv, .int .i64 pl] (0, 0) _ HW3.out.2.1 Tryd.underlying35 rfl (by kernel_rfl) ?_) | fail)
          go_ret
          exact ⟨ret_bool (by rw [HA2.out]; simp [hiv]), HW3.out.1⟩
  by_cases hk2 : kd = 2
  · have hk := hk2
    have m1 : ((kd : Int) == 1) = false := by simp; omega
    have m2 : ((kd : Int) == 2) = true := by simp [hk]
    have d1 : w2.cell? ⟨b1, 2, none⟩ = some (.int .i64 iv) := HW2.out.2.1.cell 2
    have f1 : w2.frozen? ⟨b3, 2, none⟩ = false := HW2.out.2.2.frozen 2
    have g1 : w2.cell? ⟨b3, 2, none⟩ = some (.int .i64 0) := HW2.out.2.2.cell 2
    have HW3 : Hid (Below w.heap.size w (w2.setCell ⟨b3, 2, none⟩ (.int .i64 iv)) ∧ Blk (w2.setCell ⟨b3, 2, none⟩ (.int .i64 iv)) b1 35 #[.int .u8 (kd : Nat), .string st, .int .i64 iv, .int .i64 pl] ∧ Blk (w2.setCell ⟨b3, 2, none⟩ (.int .i64 iv)) b3 35 #[.int .u8 (kd : Nat), .string ⟨#[]⟩, .int .i64 iv, .int .i64 pl]) := Lib.hid ⟨HW2.out.1.setCell (p := ⟨b3, 2, none⟩) HN.out.2 _, Blk.chg HW2.out.2.1 (Chg.setCell (T := fun b => b = b3) (Chg.refl _ _) (p := ⟨b3, 2, none⟩) rfl _) (fun e => HN.out.1 e.symm), by
      have h1 := HW2.out.2.2.set_ 2 (.int .i64 iv)
      simpa using h1⟩
    go_upto_region 16 with fail
    generalize w2.setCell ⟨b3, 2, none⟩ (.int .i64 iv) = w3 at *
    clear d1 f1 g1 k0
    have k0 : w3.cell? ⟨b1, 0, none⟩ = some (.int .u8 (kd : Nat)) := HW3.out.2.1.cell 0
    have k1 : w3.cell? ⟨b1, 1, none⟩ = some (.string st) := HW3.out.2.1.cell 1
    have k2 : w3.cell? ⟨b1, 2, none⟩ = some (.int .i64 iv) := HW3.out.2.1.cell 2
    have k3 : w3.cell? ⟨b1, 3, none⟩ = some (.int .i64 pl) := HW3.out.2.1.cell 3
    have l0 : w3.cell? ⟨b3, 0, none⟩ = some (.int .u8 (kd : Nat)) := HW3.out.2.2.cell 0
    have l1 : w3.cell? ⟨b3, 1, none⟩ = some (.string ⟨#[]⟩) := HW3.out.2.2.cell 1
    have l2 : w3.cell? ⟨b3, 2, none⟩ = some (.int .i64 iv) := HW3.out.2.2.cell 2
    have l3 : w3.cell? ⟨b3, 3, none⟩ = some (.int .i64 pl) := HW3.out.2.2.cell 3
    have HRK : Hid (R = (decide (st.data.toList = []) && decide (0 ≤ iv))) := Lib.hid (by rw [HR.out]; unfold rightB Tz.tx; dsimp only; rw [hk]; rfl)
    by_cases hl : iv < 0
    · have dl : decide (iv < 0) = true := decide_eq_true hl
      go_wp2_with fail
      go_ret
      exact ⟨ret_bool (by rw [HRK.out]; simp; omega), HW3.out.1⟩
    · have dl : decide (iv < 0) = false := decide_eq_false hl
      by_cases hst : st = ⟨#[]⟩
      · have HE : Hid (R = true) := Lib.hid (by rw [HRK.out, hst]; simp; omega)
        subst hst
        clear hl
        go_wp2_with (first | (refine wpList_load_row rfl 35 (.tmp 3) rfl b3 rfl 35 #[.int .u8 (kd : Nat), .string ⟨#[]⟩, .int .i64 iv, .int .i64 pl] (0, 0) _ HW3.out.2.2 Tryd.underlying35 rfl (by kernel_rfl) ?_) | (refine wpList_load_row rfl 35 (.tmp 1) rfl b1 rfl 35 #[.int .u8 (kd : Nat), .string ⟨#[]⟩, .int .i64 iv, .int .i64 pl] (0, 0) _ HW3.out.2.1 Tryd.underlying35 rfl (by kernel_rfl) ?_) | fail)
        go_ret
        exact ⟨ret_bool (by rw [HE.out]), HW3.out.1⟩
      · have e1 : (([] : List UInt8) == st.toList) = false := by
          rw [beq_eq_false_iff_ne]
          exact fun h => hst (bytes_of_list (by rw [← h, ByteArray.toList_eq]))
        have HE : Hid (R = false) := Lib.hid (by rw [HRK.out, decide_eq_false (fun h => hst (bytes_of_list (by rw [ByteArray.toList_eq, ByteArray.toList_eq, h])))]; rfl)
        clear hst
        go_wp2_with (first | (refine wpList_load_row rfl 35 (.tmp 3) rfl b3 rfl 35 #[.int .u8 (kd : Nat), .string ⟨#[]⟩, .int .i64 iv, .int .i64 pl] (0, 0) _ HW3.out.2.2 Tryd.underlying35 rfl (by kernel_rfl) ?_) | (refine wpList_load_row rfl 35 (.tmp 1) rfl b1 rfl 35 #[.int .u8 (kd : Nat), .string st, .int .i64 iv, .int .i64 pl] (0, 0) _ HW3.out.2.1 Tryd.underlying35 rfl (by kernel_rfl) ?_) | fail)
        go_ret
        exact ⟨ret_bool (by rw [HE.out]), HW3.out.1⟩
  by_cases hk3 : kd = 3
  · have hk := hk3
    have m1 : ((kd : Int) == 1) = false := by simp; omega
    have m2 : ((kd : Int) == 2) = false := by simp; omega
    have m3 : ((kd : Int) == 3) = true := by simp [hk]
    have d1 : w2.cell? ⟨b1, 1, none⟩ = some (.string st) := HW2.out.2.1.cell 1
    have f1 : w2.frozen? ⟨b3, 1, none⟩ = false := HW2.out.2.2.frozen 1
    have g1 : w2.cell? ⟨b3, 1, none⟩ = some (.string ⟨#[]⟩) := HW2.out.2.2.cell 1
    have HW3 : Hid (Below w.heap.size w (w2.setCell ⟨b3, 1, none⟩ (.string st)) ∧ Blk (w2.setCell ⟨b3, 1, none⟩ (.string st)) b1 35 #[.int .u8 (kd : Nat), .string st, .int .i64 iv, .int .i64 pl] ∧ Blk (w2.setCell ⟨b3, 1, none⟩ (.string st)) b3 35 #[.int .u8 (kd : Nat), .string st, .int .i64 0, .int .i64 pl]) := Lib.hid ⟨HW2.out.1.setCell (p := ⟨b3, 1, none⟩) HN.out.2 _, Blk.chg HW2.out.2.1 (Chg.setCell (T := fun b => b = b3) (Chg.refl _ _) (p := ⟨b3, 1, none⟩) rfl _) (fun e => HN.out.1 e.symm), by
      have h1 := HW2.out.2.2.set_ 1 (.string st)
      simpa using h1⟩
    go_upto_region 20 with fail
    generalize w2.setCell ⟨b3, 1, none⟩ (.string st) = w3 at *
    clear d1 f1 g1 k0
    have k0 : w3.cell? ⟨b1, 0, none⟩ = some (.int .u8 (kd : Nat)) := HW3.out.2.1.cell 0
    have k1 : w3.cell? ⟨b1, 1, none⟩ = some (.string st) := HW3.out.2.1.cell 1
    have k2 : w3.cell? ⟨b1, 2, none⟩ = some (.int .i64 iv) := HW3.out.2.1.cell 2
    have k3 : w3.cell? ⟨b1, 3, none⟩ = some (.int .i64 pl) := HW3.out.2.1.cell 3
    have l0 : w3.cell? ⟨b3, 0, none⟩ = some (.int .u8 (kd : Nat)) := HW3.out.2.2.cell 0
    have l1 : w3.cell? ⟨b3, 1, none⟩ = some (.string st) := HW3.out.2.2.cell 1
    have l2 : w3.cell? ⟨b3, 2, none⟩ = some (.int .i64 0) := HW3.out.2.2.cell 2
    have l3 : w3.cell? ⟨b3, 3, none⟩ = some (.int .i64 pl) := HW3.out.2.2.cell 3
    have HRK : Hid (R = (decide (st.data.toList.length ≤ 4095) && decide (iv = 0))) := Lib.hid (by rw [HR.out]; unfold rightB Tz.tx; dsimp only; rw [hk]; rfl)
    have hsz : st.data.toList.length = st.size := by rw [Array.length_toList]; rfl
    by_cases hl : 4095 < st.size
    · have dl : decide ((st.size : Int) > 4095) = true := decide_eq_true (by omega)
      have dl' : decide (4095 < st.size) = true := decide_eq_true hl
      go_wp2_with fail
      go_ret
      exact ⟨ret_bool (by rw [HRK.out]; simp; omega), HW3.out.1⟩
    · have dl : decide ((st.size : Int) > 4095) = false := decide_eq_false (by omega)
      have dl' : decide (4095 < st.size) = false := decide_eq_false hl
      by_cases hiv : iv = 0
      · have e1 : ((0 : Int) == iv) = true := by simp [hiv]
        go_wp2_with (first | (refine wpList_load_row rfl 35 (.tmp 3) rfl b3 rfl 35 #[.int .u8 (kd : Nat), .string st, .int .i64 0, .int .i64 pl] (0, 0) _ HW3.out.2.2 Tryd.underlying35 rfl (by kernel_rfl) ?_) | (refine wpList_load_row rfl 35 (.tmp 1) rfl b1 rfl 35 #[.int .u8 (kd : Nat), .string st, .int .i64 iv, .int .i64 pl] (0, 0) _ HW3.out.2.1 Tryd.underlying35 rfl (by kernel_rfl) ?_) | fail)
        go_ret
        exact ⟨ret_bool (by rw [HRK.out]; simp [hiv]; omega), HW3.out.1⟩
      · have e1 : ((0 : Int) == iv) = false := by simp; omega
        go_wp2_with (first | (refine wpList_load_row rfl 35 (.tmp 3) rfl b3 rfl 35 #[.int .u8 (kd : Nat), .string st, .int .i64 0, .int .i64 pl] (0, 0) _ HW3.out.2.2 Tryd.underlying35 rfl (by kernel_rfl) ?_) | (refine wpList_load_row rfl 35 (.tmp 1) rfl b1 rfl 35 #[.int .u8 (kd : Nat), .string st, .int .i64 iv, .int .i64 pl] (0, 0) _ HW3.out.2.1 Tryd.underlying35 rfl (by kernel_rfl) ?_) | fail)
        go_ret
        exact ⟨ret_bool (by rw [HRK.out]; simp [hiv]), HW3.out.1⟩
  by_cases hk4 : kd = 4
  · have hk := hk4
    have m1 : ((kd : Int) == 1) = false := by simp; omega
    have m2 : ((kd : Int) == 2) = false := by simp; omega
    have m3 : ((kd : Int) == 3) = false := by simp; omega
    have m4 : ((kd : Int) == 4) = true := by simp [hk]
    have d1 : w2.cell? ⟨b1, 1, none⟩ = some (.string st) := HW2.out.2.1.cell 1
    have f1 : w2.frozen? ⟨b3, 1, none⟩ = false := HW2.out.2.2.frozen 1
    have g1 : w2.cell? ⟨b3, 1, none⟩ = some (.string ⟨#[]⟩) := HW2.out.2.2.cell 1
    have HW3 : Hid (Below w.heap.size w (w2.setCell ⟨b3, 1, none⟩ (.string st)) ∧ Blk (w2.setCell ⟨b3, 1, none⟩ (.string st)) b1 35 #[.int .u8 (kd : Nat), .string st, .int .i64 iv, .int .i64 pl] ∧ Blk (w2.setCell ⟨b3, 1, none⟩ (.string st)) b3 35 #[.int .u8 (kd : Nat), .string st, .int .i64 0, .int .i64 pl]) := Lib.hid ⟨HW2.out.1.setCell (p := ⟨b3, 1, none⟩) HN.out.2 _, Blk.chg HW2.out.2.1 (Chg.setCell (T := fun b => b = b3) (Chg.refl _ _) (p := ⟨b3, 1, none⟩) rfl _) (fun e => HN.out.1 e.symm), by
      have h1 := HW2.out.2.2.set_ 1 (.string st)
      simpa using h1⟩
    go_upto_region 24 with fail
    generalize w2.setCell ⟨b3, 1, none⟩ (.string st) = w3 at *
    clear d1 f1 g1 k0
    have k0 : w3.cell? ⟨b1, 0, none⟩ = some (.int .u8 (kd : Nat)) := HW3.out.2.1.cell 0
    have k1 : w3.cell? ⟨b1, 1, none⟩ = some (.string st) := HW3.out.2.1.cell 1
    have k2 : w3.cell? ⟨b1, 2, none⟩ = some (.int .i64 iv) := HW3.out.2.1.cell 2
    have k3 : w3.cell? ⟨b1, 3, none⟩ = some (.int .i64 pl) := HW3.out.2.1.cell 3
    have l0 : w3.cell? ⟨b3, 0, none⟩ = some (.int .u8 (kd : Nat)) := HW3.out.2.2.cell 0
    have l1 : w3.cell? ⟨b3, 1, none⟩ = some (.string st) := HW3.out.2.2.cell 1
    have l2 : w3.cell? ⟨b3, 2, none⟩ = some (.int .i64 0) := HW3.out.2.2.cell 2
    have l3 : w3.cell? ⟨b3, 3, none⟩ = some (.int .i64 pl) := HW3.out.2.2.cell 3
    have HRK : Hid (R = (decide (st.data.toList ∈ sgn17) && decide (iv = 0))) := Lib.hid (by rw [HR.out]; unfold rightB Tz.tx; dsimp only; rw [hk]; rfl)
    by_cases hiv : iv = 0
    · have e1 : ((0 : Int) == iv) = true := by simp [hiv]
      cases e10 : (st.toList == [40])
      · cases e11 : (st.toList == [41])
        · cases e12 : (st.toList == [123])
          · cases e13 : (st.toList == [125])
            · cases e14 : (st.toList == [91])
              · cases e15 : (st.toList == [93])
                · cases e16 : (st.toList == [44])
                  · cases e17 : (st.toList == [61])
                    · cases e18 : (st.toList == [60])
                      · cases e19 : (st.toList == [43])
                        · cases e20 : (st.toList == [45])
                          · cases e21 : (st.toList == [42])
                            · cases e22 : (st.toList == [47])
                              · cases e23 : (st.toList == [37])
                                · cases e24 : (st.toList == [61, 61])
                                  · cases e25 : (st.toList == [33, 61])
                                    · cases e26 : (st.toList == [60, 61])
                                      · have hns : st.data.toList ∉ sgn17 := fun h => by
                                          rw [← ByteArray.toList_eq] at h
                                          have h2 : sgn17.contains st.toList = false := by simp only [sgn17, List.contains, List.elem, *]
                                          have h3 : sgn17.contains st.toList = true := by simpa using h
                                          rw [h3] at h2
                                          cases h2
                                        go_wp2_with fail
                                        go_ret
                                        exact ⟨ret_bool (by rw [HRK.out, decide_eq_false hns]; rfl), HW3.out.1⟩
                                      · have HIN : Hid (st.data.toList ∈ sgn17) := Lib.hid (by rw [← ByteArray.toList_eq, show st.toList = [60, 61] by simpa using e26]; decide)
                                        go_wp2_with (first | (refine wpList_load_row rfl 35 (.tmp 3) rfl b3 rfl 35 #[.int .u8 (kd : Nat), .string st, .int .i64 0, .int .i64 pl] (0, 0) _ HW3.out.2.2 Tryd.underlying35 rfl (by kernel_rfl) ?_) | (refine wpList_load_row rfl 35 (.tmp 1) rfl b1 rfl 35 #[.int .u8 (kd : Nat), .string st, .int .i64 iv, .int .i64 pl] (0, 0) _ HW3.out.2.1 Tryd.underlying35 rfl (by kernel_rfl) ?_) | fail)
                                        go_ret
                                        exact ⟨ret_bool (by rw [HRK.out, decide_eq_true HIN.out]; simp [hiv]), HW3.out.1⟩
                                    · have HIN : Hid (st.data.toList ∈ sgn17) := Lib.hid (by rw [← ByteArray.toList_eq, show st.toList = [33, 61] by simpa using e25]; decide)
                                      go_wp2_with (first | (refine wpList_load_row rfl 35 (.tmp 3) rfl b3 rfl 35 #[.int .u8 (kd : Nat), .string st, .int .i64 0, .int .i64 pl] (0, 0) _ HW3.out.2.2 Tryd.underlying35 rfl (by kernel_rfl) ?_) | (refine wpList_load_row rfl 35 (.tmp 1) rfl b1 rfl 35 #[.int .u8 (kd : Nat), .string st, .int .i64 iv, .int .i64 pl] (0, 0) _ HW3.out.2.1 Tryd.underlying35 rfl (by kernel_rfl) ?_) | fail)
                                      go_ret
                                      exact ⟨ret_bool (by rw [HRK.out, decide_eq_true HIN.out]; simp [hiv]), HW3.out.1⟩
                                  · have HIN : Hid (st.data.toList ∈ sgn17) := Lib.hid (by rw [← ByteArray.toList_eq, show st.toList = [61, 61] by simpa using e24]; decide)
                                    go_wp2_with (first | (refine wpList_load_row rfl 35 (.tmp 3) rfl b3 rfl 35 #[.int .u8 (kd : Nat), .string st, .int .i64 0, .int .i64 pl] (0, 0) _ HW3.out.2.2 Tryd.underlying35 rfl (by kernel_rfl) ?_) | (refine wpList_load_row rfl 35 (.tmp 1) rfl b1 rfl 35 #[.int .u8 (kd : Nat), .string st, .int .i64 iv, .int .i64 pl] (0, 0) _ HW3.out.2.1 Tryd.underlying35 rfl (by kernel_rfl) ?_) | fail)
                                    go_ret
                                    exact ⟨ret_bool (by rw [HRK.out, decide_eq_true HIN.out]; simp [hiv]), HW3.out.1⟩
                                · have HIN : Hid (st.data.toList ∈ sgn17) := Lib.hid (by rw [← ByteArray.toList_eq, show st.toList = [37] by simpa using e23]; decide)
                                  go_wp2_with (first | (refine wpList_load_row rfl 35 (.tmp 3) rfl b3 rfl 35 #[.int .u8 (kd : Nat), .string st, .int .i64 0, .int .i64 pl] (0, 0) _ HW3.out.2.2 Tryd.underlying35 rfl (by kernel_rfl) ?_) | (refine wpList_load_row rfl 35 (.tmp 1) rfl b1 rfl 35 #[.int .u8 (kd : Nat), .string st, .int .i64 iv, .int .i64 pl] (0, 0) _ HW3.out.2.1 Tryd.underlying35 rfl (by kernel_rfl) ?_) | fail)
                                  go_ret
                                  exact ⟨ret_bool (by rw [HRK.out, decide_eq_true HIN.out]; simp [hiv]), HW3.out.1⟩
                              · have HIN : Hid (st.data.toList ∈ sgn17) := Lib.hid (by rw [← ByteArray.toList_eq, show st.toList = [47] by simpa using e22]; decide)
                                go_wp2_with (first | (refine wpList_load_row rfl 35 (.tmp 3) rfl b3 rfl 35 #[.int .u8 (kd : Nat), .string st, .int .i64 0, .int .i64 pl] (0, 0) _ HW3.out.2.2 Tryd.underlying35 rfl (by kernel_rfl) ?_) | (refine wpList_load_row rfl 35 (.tmp 1) rfl b1 rfl 35 #[.int .u8 (kd : Nat), .string st, .int .i64 iv, .int .i64 pl] (0, 0) _ HW3.out.2.1 Tryd.underlying35 rfl (by kernel_rfl) ?_) | fail)
                                go_ret
                                exact ⟨ret_bool (by rw [HRK.out, decide_eq_true HIN.out]; simp [hiv]), HW3.out.1⟩
                            · have HIN : Hid (st.data.toList ∈ sgn17) := Lib.hid (by rw [← ByteArray.toList_eq, show st.toList = [42] by simpa using e21]; decide)
                              go_wp2_with (first | (refine wpList_load_row rfl 35 (.tmp 3) rfl b3 rfl 35 #[.int .u8 (kd : Nat), .string st, .int .i64 0, .int .i64 pl] (0, 0) _ HW3.out.2.2 Tryd.underlying35 rfl (by kernel_rfl) ?_) | (refine wpList_load_row rfl 35 (.tmp 1) rfl b1 rfl 35 #[.int .u8 (kd : Nat), .string st, .int .i64 iv, .int .i64 pl] (0, 0) _ HW3.out.2.1 Tryd.underlying35 rfl (by kernel_rfl) ?_) | fail)
                              go_ret
                              exact ⟨ret_bool (by rw [HRK.out, decide_eq_true HIN.out]; simp [hiv]), HW3.out.1⟩
                          · have HIN : Hid (st.data.toList ∈ sgn17) := Lib.hid (by rw [← ByteArray.toList_eq, show st.toList = [45] by simpa using e20]; decide)
                            go_wp2_with (first | (refine wpList_load_row rfl 35 (.tmp 3) rfl b3 rfl 35 #[.int .u8 (kd : Nat), .string st, .int .i64 0, .int .i64 pl] (0, 0) _ HW3.out.2.2 Tryd.underlying35 rfl (by kernel_rfl) ?_) | (refine wpList_load_row rfl 35 (.tmp 1) rfl b1 rfl 35 #[.int .u8 (kd : Nat), .string st, .int .i64 iv, .int .i64 pl] (0, 0) _ HW3.out.2.1 Tryd.underlying35 rfl (by kernel_rfl) ?_) | fail)
                            go_ret
                            exact ⟨ret_bool (by rw [HRK.out, decide_eq_true HIN.out]; simp [hiv]), HW3.out.1⟩
                        · have HIN : Hid (st.data.toList ∈ sgn17) := Lib.hid (by rw [← ByteArray.toList_eq, show st.toList = [43] by simpa using e19]; decide)
                          go_wp2_with (first | (refine wpList_load_row rfl 35 (.tmp 3) rfl b3 rfl 35 #[.int .u8 (kd : Nat), .string st, .int .i64 0, .int .i64 pl] (0, 0) _ HW3.out.2.2 Tryd.underlying35 rfl (by kernel_rfl) ?_) | (refine wpList_load_row rfl 35 (.tmp 1) rfl b1 rfl 35 #[.int .u8 (kd : Nat), .string st, .int .i64 iv, .int .i64 pl] (0, 0) _ HW3.out.2.1 Tryd.underlying35 rfl (by kernel_rfl) ?_) | fail)
                          go_ret
                          exact ⟨ret_bool (by rw [HRK.out, decide_eq_true HIN.out]; simp [hiv]), HW3.out.1⟩
                      · have HIN : Hid (st.data.toList ∈ sgn17) := Lib.hid (by rw [← ByteArray.toList_eq, show st.toList = [60] by simpa using e18]; decide)
                        go_wp2_with (first | (refine wpList_load_row rfl 35 (.tmp 3) rfl b3 rfl 35 #[.int .u8 (kd : Nat), .string st, .int .i64 0, .int .i64 pl] (0, 0) _ HW3.out.2.2 Tryd.underlying35 rfl (by kernel_rfl) ?_) | (refine wpList_load_row rfl 35 (.tmp 1) rfl b1 rfl 35 #[.int .u8 (kd : Nat), .string st, .int .i64 iv, .int .i64 pl] (0, 0) _ HW3.out.2.1 Tryd.underlying35 rfl (by kernel_rfl) ?_) | fail)
                        go_ret
                        exact ⟨ret_bool (by rw [HRK.out, decide_eq_true HIN.out]; simp [hiv]), HW3.out.1⟩
                    · have HIN : Hid (st.data.toList ∈ sgn17) := Lib.hid (by rw [← ByteArray.toList_eq, show st.toList = [61] by simpa using e17]; decide)
                      go_wp2_with (first | (refine wpList_load_row rfl 35 (.tmp 3) rfl b3 rfl 35 #[.int .u8 (kd : Nat), .string st, .int .i64 0, .int .i64 pl] (0, 0) _ HW3.out.2.2 Tryd.underlying35 rfl (by kernel_rfl) ?_) | (refine wpList_load_row rfl 35 (.tmp 1) rfl b1 rfl 35 #[.int .u8 (kd : Nat), .string st, .int .i64 iv, .int .i64 pl] (0, 0) _ HW3.out.2.1 Tryd.underlying35 rfl (by kernel_rfl) ?_) | fail)
                      go_ret
                      exact ⟨ret_bool (by rw [HRK.out, decide_eq_true HIN.out]; simp [hiv]), HW3.out.1⟩
                  · have HIN : Hid (st.data.toList ∈ sgn17) := Lib.hid (by rw [← ByteArray.toList_eq, show st.toList = [44] by simpa using e16]; decide)
                    go_wp2_with (first | (refine wpList_load_row rfl 35 (.tmp 3) rfl b3 rfl 35 #[.int .u8 (kd : Nat), .string st, .int .i64 0, .int .i64 pl] (0, 0) _ HW3.out.2.2 Tryd.underlying35 rfl (by kernel_rfl) ?_) | (refine wpList_load_row rfl 35 (.tmp 1) rfl b1 rfl 35 #[.int .u8 (kd : Nat), .string st, .int .i64 iv, .int .i64 pl] (0, 0) _ HW3.out.2.1 Tryd.underlying35 rfl (by kernel_rfl) ?_) | fail)
                    go_ret
                    exact ⟨ret_bool (by rw [HRK.out, decide_eq_true HIN.out]; simp [hiv]), HW3.out.1⟩
                · have HIN : Hid (st.data.toList ∈ sgn17) := Lib.hid (by rw [← ByteArray.toList_eq, show st.toList = [93] by simpa using e15]; decide)
                  go_wp2_with (first | (refine wpList_load_row rfl 35 (.tmp 3) rfl b3 rfl 35 #[.int .u8 (kd : Nat), .string st, .int .i64 0, .int .i64 pl] (0, 0) _ HW3.out.2.2 Tryd.underlying35 rfl (by kernel_rfl) ?_) | (refine wpList_load_row rfl 35 (.tmp 1) rfl b1 rfl 35 #[.int .u8 (kd : Nat), .string st, .int .i64 iv, .int .i64 pl] (0, 0) _ HW3.out.2.1 Tryd.underlying35 rfl (by kernel_rfl) ?_) | fail)
                  go_ret
                  exact ⟨ret_bool (by rw [HRK.out, decide_eq_true HIN.out]; simp [hiv]), HW3.out.1⟩
              · have HIN : Hid (st.data.toList ∈ sgn17) := Lib.hid (by rw [← ByteArray.toList_eq, show st.toList = [91] by simpa using e14]; decide)
                go_wp2_with (first | (refine wpList_load_row rfl 35 (.tmp 3) rfl b3 rfl 35 #[.int .u8 (kd : Nat), .string st, .int .i64 0, .int .i64 pl] (0, 0) _ HW3.out.2.2 Tryd.underlying35 rfl (by kernel_rfl) ?_) | (refine wpList_load_row rfl 35 (.tmp 1) rfl b1 rfl 35 #[.int .u8 (kd : Nat), .string st, .int .i64 iv, .int .i64 pl] (0, 0) _ HW3.out.2.1 Tryd.underlying35 rfl (by kernel_rfl) ?_) | fail)
                go_ret
                exact ⟨ret_bool (by rw [HRK.out, decide_eq_true HIN.out]; simp [hiv]), HW3.out.1⟩
            · have HIN : Hid (st.data.toList ∈ sgn17) := Lib.hid (by rw [← ByteArray.toList_eq, show st.toList = [125] by simpa using e13]; decide)
              go_wp2_with (first | (refine wpList_load_row rfl 35 (.tmp 3) rfl b3 rfl 35 #[.int .u8 (kd : Nat), .string st, .int .i64 0, .int .i64 pl] (0, 0) _ HW3.out.2.2 Tryd.underlying35 rfl (by kernel_rfl) ?_) | (refine wpList_load_row rfl 35 (.tmp 1) rfl b1 rfl 35 #[.int .u8 (kd : Nat), .string st, .int .i64 iv, .int .i64 pl] (0, 0) _ HW3.out.2.1 Tryd.underlying35 rfl (by kernel_rfl) ?_) | fail)
              go_ret
              exact ⟨ret_bool (by rw [HRK.out, decide_eq_true HIN.out]; simp [hiv]), HW3.out.1⟩
          · have HIN : Hid (st.data.toList ∈ sgn17) := Lib.hid (by rw [← ByteArray.toList_eq, show st.toList = [123] by simpa using e12]; decide)
            go_wp2_with (first | (refine wpList_load_row rfl 35 (.tmp 3) rfl b3 rfl 35 #[.int .u8 (kd : Nat), .string st, .int .i64 0, .int .i64 pl] (0, 0) _ HW3.out.2.2 Tryd.underlying35 rfl (by kernel_rfl) ?_) | (refine wpList_load_row rfl 35 (.tmp 1) rfl b1 rfl 35 #[.int .u8 (kd : Nat), .string st, .int .i64 iv, .int .i64 pl] (0, 0) _ HW3.out.2.1 Tryd.underlying35 rfl (by kernel_rfl) ?_) | fail)
            go_ret
            exact ⟨ret_bool (by rw [HRK.out, decide_eq_true HIN.out]; simp [hiv]), HW3.out.1⟩
        · have HIN : Hid (st.data.toList ∈ sgn17) := Lib.hid (by rw [← ByteArray.toList_eq, show st.toList = [41] by simpa using e11]; decide)
          go_wp2_with (first | (refine wpList_load_row rfl 35 (.tmp 3) rfl b3 rfl 35 #[.int .u8 (kd : Nat), .string st, .int .i64 0, .int .i64 pl] (0, 0) _ HW3.out.2.2 Tryd.underlying35 rfl (by kernel_rfl) ?_) | (refine wpList_load_row rfl 35 (.tmp 1) rfl b1 rfl 35 #[.int .u8 (kd : Nat), .string st, .int .i64 iv, .int .i64 pl] (0, 0) _ HW3.out.2.1 Tryd.underlying35 rfl (by kernel_rfl) ?_) | fail)
          go_ret
          exact ⟨ret_bool (by rw [HRK.out, decide_eq_true HIN.out]; simp [hiv]), HW3.out.1⟩
      · have HIN : Hid (st.data.toList ∈ sgn17) := Lib.hid (by rw [← ByteArray.toList_eq, show st.toList = [40] by simpa using e10]; decide)
        go_wp2_with (first | (refine wpList_load_row rfl 35 (.tmp 3) rfl b3 rfl 35 #[.int .u8 (kd : Nat), .string st, .int .i64 0, .int .i64 pl] (0, 0) _ HW3.out.2.2 Tryd.underlying35 rfl (by kernel_rfl) ?_) | (refine wpList_load_row rfl 35 (.tmp 1) rfl b1 rfl 35 #[.int .u8 (kd : Nat), .string st, .int .i64 iv, .int .i64 pl] (0, 0) _ HW3.out.2.1 Tryd.underlying35 rfl (by kernel_rfl) ?_) | fail)
        go_ret
        exact ⟨ret_bool (by rw [HRK.out, decide_eq_true HIN.out]; simp [hiv]), HW3.out.1⟩
    · have e1 : ((0 : Int) == iv) = false := by simp; omega
      cases e10 : (st.toList == [40])
      · cases e11 : (st.toList == [41])
        · cases e12 : (st.toList == [123])
          · cases e13 : (st.toList == [125])
            · cases e14 : (st.toList == [91])
              · cases e15 : (st.toList == [93])
                · cases e16 : (st.toList == [44])
                  · cases e17 : (st.toList == [61])
                    · cases e18 : (st.toList == [60])
                      · cases e19 : (st.toList == [43])
                        · cases e20 : (st.toList == [45])
                          · cases e21 : (st.toList == [42])
                            · cases e22 : (st.toList == [47])
                              · cases e23 : (st.toList == [37])
                                · cases e24 : (st.toList == [61, 61])
                                  · cases e25 : (st.toList == [33, 61])
                                    · cases e26 : (st.toList == [60, 61])
                                      · have hns : st.data.toList ∉ sgn17 := fun h => by
                                          rw [← ByteArray.toList_eq] at h
                                          have h2 : sgn17.contains st.toList = false := by simp only [sgn17, List.contains, List.elem, *]
                                          have h3 : sgn17.contains st.toList = true := by simpa using h
                                          rw [h3] at h2
                                          cases h2
                                        go_wp2_with fail
                                        go_ret
                                        exact ⟨ret_bool (by rw [HRK.out, decide_eq_false hns]; rfl), HW3.out.1⟩
                                      · have HIN : Hid (st.data.toList ∈ sgn17) := Lib.hid (by rw [← ByteArray.toList_eq, show st.toList = [60, 61] by simpa using e26]; decide)
                                        go_wp2_with (first | (refine wpList_load_row rfl 35 (.tmp 3) rfl b3 rfl 35 #[.int .u8 (kd : Nat), .string st, .int .i64 0, .int .i64 pl] (0, 0) _ HW3.out.2.2 Tryd.underlying35 rfl (by kernel_rfl) ?_) | (refine wpList_load_row rfl 35 (.tmp 1) rfl b1 rfl 35 #[.int .u8 (kd : Nat), .string st, .int .i64 iv, .int .i64 pl] (0, 0) _ HW3.out.2.1 Tryd.underlying35 rfl (by kernel_rfl) ?_) | fail)
                                        go_ret
                                        exact ⟨ret_bool (by rw [HRK.out, decide_eq_true HIN.out]; simp [hiv]), HW3.out.1⟩
                                    · have HIN : Hid (st.data.toList ∈ sgn17) := Lib.hid (by rw [← ByteArray.toList_eq, show st.toList = [33, 61] by simpa using e25]; decide)
                                      go_wp2_with (first | (refine wpList_load_row rfl 35 (.tmp 3) rfl b3 rfl 35 #[.int .u8 (kd : Nat), .string st, .int .i64 0, .int .i64 pl] (0, 0) _ HW3.out.2.2 Tryd.underlying35 rfl (by kernel_rfl) ?_) | (refine wpList_load_row rfl 35 (.tmp 1) rfl b1 rfl 35 #[.int .u8 (kd : Nat), .string st, .int .i64 iv, .int .i64 pl] (0, 0) _ HW3.out.2.1 Tryd.underlying35 rfl (by kernel_rfl) ?_) | fail)
                                      go_ret
                                      exact ⟨ret_bool (by rw [HRK.out, decide_eq_true HIN.out]; simp [hiv]), HW3.out.1⟩
                                  · have HIN : Hid (st.data.toList ∈ sgn17) := Lib.hid (by rw [← ByteArray.toList_eq, show st.toList = [61, 61] by simpa using e24]; decide)
                                    go_wp2_with (first | (refine wpList_load_row rfl 35 (.tmp 3) rfl b3 rfl 35 #[.int .u8 (kd : Nat), .string st, .int .i64 0, .int .i64 pl] (0, 0) _ HW3.out.2.2 Tryd.underlying35 rfl (by kernel_rfl) ?_) | (refine wpList_load_row rfl 35 (.tmp 1) rfl b1 rfl 35 #[.int .u8 (kd : Nat), .string st, .int .i64 iv, .int .i64 pl] (0, 0) _ HW3.out.2.1 Tryd.underlying35 rfl (by kernel_rfl) ?_) | fail)
                                    go_ret
                                    exact ⟨ret_bool (by rw [HRK.out, decide_eq_true HIN.out]; simp [hiv]), HW3.out.1⟩
                                · have HIN : Hid (st.data.toList ∈ sgn17) := Lib.hid (by rw [← ByteArray.toList_eq, show st.toList = [37] by simpa using e23]; decide)
                                  go_wp2_with (first | (refine wpList_load_row rfl 35 (.tmp 3) rfl b3 rfl 35 #[.int .u8 (kd : Nat), .string st, .int .i64 0, .int .i64 pl] (0, 0) _ HW3.out.2.2 Tryd.underlying35 rfl (by kernel_rfl) ?_) | (refine wpList_load_row rfl 35 (.tmp 1) rfl b1 rfl 35 #[.int .u8 (kd : Nat), .string st, .int .i64 iv, .int .i64 pl] (0, 0) _ HW3.out.2.1 Tryd.underlying35 rfl (by kernel_rfl) ?_) | fail)
                                  go_ret
                                  exact ⟨ret_bool (by rw [HRK.out, decide_eq_true HIN.out]; simp [hiv]), HW3.out.1⟩
                              · have HIN : Hid (st.data.toList ∈ sgn17) := Lib.hid (by rw [← ByteArray.toList_eq, show st.toList = [47] by simpa using e22]; decide)
                                go_wp2_with (first | (refine wpList_load_row rfl 35 (.tmp 3) rfl b3 rfl 35 #[.int .u8 (kd : Nat), .string st, .int .i64 0, .int .i64 pl] (0, 0) _ HW3.out.2.2 Tryd.underlying35 rfl (by kernel_rfl) ?_) | (refine wpList_load_row rfl 35 (.tmp 1) rfl b1 rfl 35 #[.int .u8 (kd : Nat), .string st, .int .i64 iv, .int .i64 pl] (0, 0) _ HW3.out.2.1 Tryd.underlying35 rfl (by kernel_rfl) ?_) | fail)
                                go_ret
                                exact ⟨ret_bool (by rw [HRK.out, decide_eq_true HIN.out]; simp [hiv]), HW3.out.1⟩
                            · have HIN : Hid (st.data.toList ∈ sgn17) := Lib.hid (by rw [← ByteArray.toList_eq, show st.toList = [42] by simpa using e21]; decide)
                              go_wp2_with (first | (refine wpList_load_row rfl 35 (.tmp 3) rfl b3 rfl 35 #[.int .u8 (kd : Nat), .string st, .int .i64 0, .int .i64 pl] (0, 0) _ HW3.out.2.2 Tryd.underlying35 rfl (by kernel_rfl) ?_) | (refine wpList_load_row rfl 35 (.tmp 1) rfl b1 rfl 35 #[.int .u8 (kd : Nat), .string st, .int .i64 iv, .int .i64 pl] (0, 0) _ HW3.out.2.1 Tryd.underlying35 rfl (by kernel_rfl) ?_) | fail)
                              go_ret
                              exact ⟨ret_bool (by rw [HRK.out, decide_eq_true HIN.out]; simp [hiv]), HW3.out.1⟩
                          · have HIN : Hid (st.data.toList ∈ sgn17) := Lib.hid (by rw [← ByteArray.toList_eq, show st.toList = [45] by simpa using e20]; decide)
                            go_wp2_with (first | (refine wpList_load_row rfl 35 (.tmp 3) rfl b3 rfl 35 #[.int .u8 (kd : Nat), .string st, .int .i64 0, .int .i64 pl] (0, 0) _ HW3.out.2.2 Tryd.underlying35 rfl (by kernel_rfl) ?_) | (refine wpList_load_row rfl 35 (.tmp 1) rfl b1 rfl 35 #[.int .u8 (kd : Nat), .string st, .int .i64 iv, .int .i64 pl] (0, 0) _ HW3.out.2.1 Tryd.underlying35 rfl (by kernel_rfl) ?_) | fail)
                            go_ret
                            exact ⟨ret_bool (by rw [HRK.out, decide_eq_true HIN.out]; simp [hiv]), HW3.out.1⟩
                        · have HIN : Hid (st.data.toList ∈ sgn17) := Lib.hid (by rw [← ByteArray.toList_eq, show st.toList = [43] by simpa using e19]; decide)
                          go_wp2_with (first | (refine wpList_load_row rfl 35 (.tmp 3) rfl b3 rfl 35 #[.int .u8 (kd : Nat), .string st, .int .i64 0, .int .i64 pl] (0, 0) _ HW3.out.2.2 Tryd.underlying35 rfl (by kernel_rfl) ?_) | (refine wpList_load_row rfl 35 (.tmp 1) rfl b1 rfl 35 #[.int .u8 (kd : Nat), .string st, .int .i64 iv, .int .i64 pl] (0, 0) _ HW3.out.2.1 Tryd.underlying35 rfl (by kernel_rfl) ?_) | fail)
                          go_ret
                          exact ⟨ret_bool (by rw [HRK.out, decide_eq_true HIN.out]; simp [hiv]), HW3.out.1⟩
                      · have HIN : Hid (st.data.toList ∈ sgn17) := Lib.hid (by rw [← ByteArray.toList_eq, show st.toList = [60] by simpa using e18]; decide)
                        go_wp2_with (first | (refine wpList_load_row rfl 35 (.tmp 3) rfl b3 rfl 35 #[.int .u8 (kd : Nat), .string st, .int .i64 0, .int .i64 pl] (0, 0) _ HW3.out.2.2 Tryd.underlying35 rfl (by kernel_rfl) ?_) | (refine wpList_load_row rfl 35 (.tmp 1) rfl b1 rfl 35 #[.int .u8 (kd : Nat), .string st, .int .i64 iv, .int .i64 pl] (0, 0) _ HW3.out.2.1 Tryd.underlying35 rfl (by kernel_rfl) ?_) | fail)
                        go_ret
                        exact ⟨ret_bool (by rw [HRK.out, decide_eq_true HIN.out]; simp [hiv]), HW3.out.1⟩
                    · have HIN : Hid (st.data.toList ∈ sgn17) := Lib.hid (by rw [← ByteArray.toList_eq, show st.toList = [61] by simpa using e17]; decide)
                      go_wp2_with (first | (refine wpList_load_row rfl 35 (.tmp 3) rfl b3 rfl 35 #[.int .u8 (kd : Nat), .string st, .int .i64 0, .int .i64 pl] (0, 0) _ HW3.out.2.2 Tryd.underlying35 rfl (by kernel_rfl) ?_) | (refine wpList_load_row rfl 35 (.tmp 1) rfl b1 rfl 35 #[.int .u8 (kd : Nat), .string st, .int .i64 iv, .int .i64 pl] (0, 0) _ HW3.out.2.1 Tryd.underlying35 rfl (by kernel_rfl) ?_) | fail)
                      go_ret
                      exact ⟨ret_bool (by rw [HRK.out, decide_eq_true HIN.out]; simp [hiv]), HW3.out.1⟩
                  · have HIN : Hid (st.data.toList ∈ sgn17) := Lib.hid (by rw [← ByteArray.toList_eq, show st.toList = [44] by simpa using e16]; decide)
                    go_wp2_with (first | (refine wpList_load_row rfl 35 (.tmp 3) rfl b3 rfl 35 #[.int .u8 (kd : Nat), .string st, .int .i64 0, .int .i64 pl] (0, 0) _ HW3.out.2.2 Tryd.underlying35 rfl (by kernel_rfl) ?_) | (refine wpList_load_row rfl 35 (.tmp 1) rfl b1 rfl 35 #[.int .u8 (kd : Nat), .string st, .int .i64 iv, .int .i64 pl] (0, 0) _ HW3.out.2.1 Tryd.underlying35 rfl (by kernel_rfl) ?_) | fail)
                    go_ret
                    exact ⟨ret_bool (by rw [HRK.out, decide_eq_true HIN.out]; simp [hiv]), HW3.out.1⟩
                · have HIN : Hid (st.data.toList ∈ sgn17) := Lib.hid (by rw [← ByteArray.toList_eq, show st.toList = [93] by simpa using e15]; decide)
                  go_wp2_with (first | (refine wpList_load_row rfl 35 (.tmp 3) rfl b3 rfl 35 #[.int .u8 (kd : Nat), .string st, .int .i64 0, .int .i64 pl] (0, 0) _ HW3.out.2.2 Tryd.underlying35 rfl (by kernel_rfl) ?_) | (refine wpList_load_row rfl 35 (.tmp 1) rfl b1 rfl 35 #[.int .u8 (kd : Nat), .string st, .int .i64 iv, .int .i64 pl] (0, 0) _ HW3.out.2.1 Tryd.underlying35 rfl (by kernel_rfl) ?_) | fail)
                  go_ret
                  exact ⟨ret_bool (by rw [HRK.out, decide_eq_true HIN.out]; simp [hiv]), HW3.out.1⟩
              · have HIN : Hid (st.data.toList ∈ sgn17) := Lib.hid (by rw [← ByteArray.toList_eq, show st.toList = [91] by simpa using e14]; decide)
                go_wp2_with (first | (refine wpList_load_row rfl 35 (.tmp 3) rfl b3 rfl 35 #[.int .u8 (kd : Nat), .string st, .int .i64 0, .int .i64 pl] (0, 0) _ HW3.out.2.2 Tryd.underlying35 rfl (by kernel_rfl) ?_) | (refine wpList_load_row rfl 35 (.tmp 1) rfl b1 rfl 35 #[.int .u8 (kd : Nat), .string st, .int .i64 iv, .int .i64 pl] (0, 0) _ HW3.out.2.1 Tryd.underlying35 rfl (by kernel_rfl) ?_) | fail)
                go_ret
                exact ⟨ret_bool (by rw [HRK.out, decide_eq_true HIN.out]; simp [hiv]), HW3.out.1⟩
            · have HIN : Hid (st.data.toList ∈ sgn17) := Lib.hid (by rw [← ByteArray.toList_eq, show st.toList = [125] by simpa using e13]; decide)
              go_wp2_with (first | (refine wpList_load_row rfl 35 (.tmp 3) rfl b3 rfl 35 #[.int .u8 (kd : Nat), .string st, .int .i64 0, .int .i64 pl] (0, 0) _ HW3.out.2.2 Tryd.underlying35 rfl (by kernel_rfl) ?_) | (refine wpList_load_row rfl 35 (.tmp 1) rfl b1 rfl 35 #[.int .u8 (kd : Nat), .string st, .int .i64 iv, .int .i64 pl] (0, 0) _ HW3.out.2.1 Tryd.underlying35 rfl (by kernel_rfl) ?_) | fail)
              go_ret
              exact ⟨ret_bool (by rw [HRK.out, decide_eq_true HIN.out]; simp [hiv]), HW3.out.1⟩
          · have HIN : Hid (st.data.toList ∈ sgn17) := Lib.hid (by rw [← ByteArray.toList_eq, show st.toList = [123] by simpa using e12]; decide)
            go_wp2_with (first | (refine wpList_load_row rfl 35 (.tmp 3) rfl b3 rfl 35 #[.int .u8 (kd : Nat), .string st, .int .i64 0, .int .i64 pl] (0, 0) _ HW3.out.2.2 Tryd.underlying35 rfl (by kernel_rfl) ?_) | (refine wpList_load_row rfl 35 (.tmp 1) rfl b1 rfl 35 #[.int .u8 (kd : Nat), .string st, .int .i64 iv, .int .i64 pl] (0, 0) _ HW3.out.2.1 Tryd.underlying35 rfl (by kernel_rfl) ?_) | fail)
            go_ret
            exact ⟨ret_bool (by rw [HRK.out, decide_eq_true HIN.out]; simp [hiv]), HW3.out.1⟩
        · have HIN : Hid (st.data.toList ∈ sgn17) := Lib.hid (by rw [← ByteArray.toList_eq, show st.toList = [41] by simpa using e11]; decide)
          go_wp2_with (first | (refine wpList_load_row rfl 35 (.tmp 3) rfl b3 rfl 35 #[.int .u8 (kd : Nat), .string st, .int .i64 0, .int .i64 pl] (0, 0) _ HW3.out.2.2 Tryd.underlying35 rfl (by kernel_rfl) ?_) | (refine wpList_load_row rfl 35 (.tmp 1) rfl b1 rfl 35 #[.int .u8 (kd : Nat), .string st, .int .i64 iv, .int .i64 pl] (0, 0) _ HW3.out.2.1 Tryd.underlying35 rfl (by kernel_rfl) ?_) | fail)
          go_ret
          exact ⟨ret_bool (by rw [HRK.out, decide_eq_true HIN.out]; simp [hiv]), HW3.out.1⟩
      · have HIN : Hid (st.data.toList ∈ sgn17) := Lib.hid (by rw [← ByteArray.toList_eq, show st.toList = [40] by simpa using e10]; decide)
        go_wp2_with (first | (refine wpList_load_row rfl 35 (.tmp 3) rfl b3 rfl 35 #[.int .u8 (kd : Nat), .string st, .int .i64 0, .int .i64 pl] (0, 0) _ HW3.out.2.2 Tryd.underlying35 rfl (by kernel_rfl) ?_) | (refine wpList_load_row rfl 35 (.tmp 1) rfl b1 rfl 35 #[.int .u8 (kd : Nat), .string st, .int .i64 iv, .int .i64 pl] (0, 0) _ HW3.out.2.1 Tryd.underlying35 rfl (by kernel_rfl) ?_) | fail)
        go_ret
        exact ⟨ret_bool (by rw [HRK.out, decide_eq_true HIN.out]; simp [hiv]), HW3.out.1⟩
  have m1 : ((kd : Int) == 1) = false := by simp; omega
  have m2 : ((kd : Int) == 2) = false := by simp; omega
  have m3 : ((kd : Int) == 3) = false := by simp; omega
  have m4 : ((kd : Int) == 4) = false := by simp; omega
  have HRK : Hid (R = false) := Lib.hid (by rw [HR.out]; unfold rightB; dsimp only; rw [if_neg hk1, if_neg hk2, if_neg hk3, if_neg hk4])
  go_wp2_with fail
  go_ret
  exact ⟨ret_bool (by rw [HRK.out]), HW2.out.1⟩
theorem hex_all : ∀ q : Fin 16, (⟨#[48, 49, 50, 51, 52, 53, 54, 55, 56, 57, 97, 98, 99, 100, 101, 102]⟩ : ByteArray)[q.val]'(by have := q.isLt; exact this) = hx q.val := by decide
theorem hex_get {q : Nat} (h : q < 16) : (⟨#[48, 49, 50, 51, 52, 53, 54, 55, 56, 57, 97, 98, 99, 100, 101, 102]⟩ : ByteArray)[q]'(by exact h) = hx q := hex_all ⟨q, h⟩
theorem hex_getz {z : Int} {q : Nat} (e : z = (q : Int)) (hq : q < 16) (h : z.toNat < (⟨#[48, 49, 50, 51, 52, 53, 54, 55, 56, 57, 97, 98, 99, 100, 101, 102]⟩ : ByteArray).size) : (⟨#[48, 49, 50, 51, 52, 53, 54, 55, 56, 57, 97, 98, 99, 100, 101, 102]⟩ : ByteArray)[z.toNat]'h = hx q := by
  subst e
  exact hex_get hq
theorem reads_n {w : World} {g : Nat} {e : TypeId} {l : List Value} {B m : Nat} (h : Blk w g e l.toArray) (hl : l.length = m) (hB : g < B) : Reads w B 1 (some ⟨g, 0, none⟩) m l :=
  ⟨by rw [hl, Nat.mul_one], fun _ => ⟨_, rfl, hB, fun j x hx => by rw [addr_add, Nat.zero_add, h.cell, ← hx, List.getElem?_toArray]⟩⟩
theorem cells_new (w : World) (cs : List Value) (t : TypeId) : ∀ j u, cs[j]? = some u → (w.alloc (.cells cs.toArray t)).cell? ((⟨w.heap.size, 0, none⟩ : Addr).add j) = some u := fun j u hj => by
  rw [addr_add, Nat.zero_add]
  have := (Blk.new w t cs.toArray).cell j
  rw [this, ← hj]
  simp
set_option maxRecDepth 100000 in
set_option maxHeartbeats 8000000 in
theorem quoted_any (s : List UInt8) (hs : s.length ≤ 5000) (w : World) : Calls Tryd.prog 49 #[.string ⟨s.toArray⟩] w fun e w' => e = .returned (.string ⟨(quoteL s).toArray⟩) ∧ Below w.heap.size w w' := by
  obtain ⟨i0, hi0, hz0, hz1, hz2⟩ := info_parts Tryd.info5
  have HI := Lib.hid (And.intro hi0 (And.intro hz0 (And.intro hz1 hz2)))
  clear hi0 hz0 hz1 hz2
  obtain ⟨st, hst⟩ : ∃ st : ByteArray, st = ⟨s.toArray⟩ := ⟨_, rfl⟩
  have hsz : st.size = s.length := by rw [hst]; rfl
  obtain ⟨n, hn⟩ : ∃ n, n = s.length := ⟨_, rfl⟩
  obtain ⟨R, hR⟩ : ∃ R, R = quoteL s := ⟨_, rfl⟩
  rw [← hst, ← hR]
  rw [← hn] at hsz hs
  have HST := Lib.hid hst
  have HN := Lib.hid hn
  have HR0 := Lib.hid hR
  clear hst hn hR
  have HO0 : Hid ((w.alloc (.cells #[.int .u8 34] 5)).ownsRow w.heap.size 5 1 (.slice (some ⟨w.heap.size, 0, none⟩) 1 1) 1 (bcells [34]) ∧ Below w.heap.size w (w.alloc (.cells #[.int .u8 34] 5))) := Lib.hid ⟨by
    exact ⟨rfl, .inr ⟨w.heap.size, 1, #[.int .u8 34], rfl, Nat.le_refl _, heap_alloc_new w _, Nat.le_refl _, by unfold maxLen; omega, rfl, rfl⟩⟩, (Below.refl _ _).alloc (Nat.le_refl _) _⟩
  go_enter Tryd.func49, Tryd.ntmps49
  go_upto_region 2 with fail
  generalize w.alloc (.cells #[.int .u8 34] 5) = w0 at *
  go_wp2_with fail
  go_loopw [9, 3] (fun s9 s3 wr => ∃ (k : Nat) (b : List UInt8) (A : Option Addr) (cap : Nat), s9 = .int .i64 k ∧ s3 = .slice A b.length cap ∧ k ≤ n ∧ b = 34 :: (s.take k).flatMap q1 ∧ b.length ≤ 1 + 4 * k ∧ wr.ownsRow w.heap.size 5 1 (.slice A b.length cap) b.length (bcells b) ∧ Below w.heap.size w wr) (fun s9 _ _ => n - (intOf s9).toNat)
  case atStart => exact ⟨0, [34], some ⟨w.heap.size, 0, none⟩, 1, by go_num, rfl, by omega, by simp, by simp, HO0.out.1, HO0.out.2⟩
  case round =>
    clear HO0
    obtain ⟨k, b, A, cap, rfl, rfl, hkn, hbd, hbl, ho, hb⟩ := hrel
    have HB := Lib.hid hb
    obtain ⟨m, hm⟩ : ∃ m, m = b.length := ⟨_, rfl⟩
    rw [← hm] at ho hbl ⊢
    have HO := Lib.hid ho
    have HM := Lib.hid hm
    have HBD := Lib.hid hbd
    clear hbd hb ho hm
    by_cases hlt : k < n
    · have di : decide ((k : Int) < (n : Int)) = true := decide_eq_true (by omega)
      have hks : k < s.length := by rw [← HN.out]; exact hlt
      obtain ⟨ch, hch⟩ : ∃ c, c = s[k] := ⟨_, rfl⟩
      have hkst : k < st.size := by omega
      have hg : st[k] = ch := by rw [hch]; exact st_get HST.out hkst hks
      have HTK : Hid (s.take (k + 1) = s.take k ++ [ch]) := Lib.hid (by rw [hch]; exact List.take_succ_eq_append_getElem hks)
      have hcl : ch.toNat < 256 := UInt8.toNat_lt _
      have HE : Hid (∀ q : UInt8, ch = q ↔ ch.toNat = q.toNat) := fun q => ⟨fun h => by rw [h], fun h => UInt8.toNat_inj.1 h⟩
      obtain ⟨cv, hcv⟩ : ∃ v, v = ch.toNat := ⟨_, rfl⟩
      have hg2 : st[k].toNat = cv := by rw [hg, hcv]
      have HCV := Lib.hid hcv
      rw [← hcv] at hcl
      have k0 : (0 : Int) ≤ (k : Int) := by omega
      have k1 : (k : Int) < (n : Int) := by omega
      clear hg hcv hch hks
      by_cases h34 : cv = 34 ∨ cv = 92
      · have H34 : Hid (ch = 34 ∨ ch = 92) := Lib.hid (h34.imp (fun h => (HE.out 34).2 (HCV.out.symm.trans h)) (fun h => (HE.out 92).2 (HCV.out.symm.trans h)))
        by_cases h34' : cv = 34
        · have e34 : ((cv : Int) == 34) = true := by rw [h34']; rfl
          clear h34 h34'
          have HQ : Hid (q1 ch = [92, ch]) := Lib.hid (by unfold q1; rw [if_pos H34.out])
          have HX2 : Hid (bcells (b ++ q1 ch) = bcells b ++ [.int .u8 92, .int .u8 (cv : Nat)]) := Lib.hid (by rw [bcells_append, HQ.out]; simp [bcells, HCV.out])
          have HL : Hid ((b ++ q1 ch).length = m + 2) := Lib.hid (by rw [List.length_append, HQ.out, ← HM.out]; rfl)
          obtain ⟨hi0, hz0, hz1, hz2⟩ := HI.out
          go_wp2_with (at_builtin; refine wpList_append_own _ rfl (.tmp 26) (.tmp 28) 73 rfl w.heap.size 5 i0 (.int .u8 0) 1 1 Tryd.underlying73 hi0 hz0 hz1 hz2 rfl (by decide) (.slice A m cap) m (bcells b) rfl (HO.out.alloc _) ⟨wr.heap.size, 0, none⟩ 2 2 [.int .u8 92, .int .u8 (cv : Nat)] rfl rfl (cells_new _ _ _) (by intro u hu; simp only [List.mem_cons, List.not_mem_nil, or_false] at hu; rcases hu with rfl | rfl <;> rfl) (by unfold maxLen; omega) (by omega) (by have := HB.out.size; simp; omega) ?_; intro v3 w3 ho3 hg3 _; obtain ⟨A3, c3, rfl, _⟩ := own_form ho3; have HO3 := Lib.hid ho3; have HG3 := Lib.hid hg3; clear ho3 hg3)
          go_wp2_with fail
          go_roundw
          case rel => exact ⟨k + 1, b ++ q1 ch, A3, c3, by go_num, by rw [HL.out], by omega, by rw [HTK.out, List.flatMap_append, ← List.cons_append, ← HBD.out]; simp, by rw [HL.out]; omega, by rw [HL.out, HX2.out]; exact HO3.out, (HB.out.alloc HB.out.size _).grown HG3.out (by have := HB.out.size; simp; omega) (fun g hg => (World.ownsRow.lt HO.out g hg).1)⟩
          case measure => simp [intOf]; omega
        · have e34 : ((cv : Int) == 34) = false := by rw [beq_eq_false_iff_ne]; omega
          have e92 : ((cv : Int) == 92) = true := by rw [h34.resolve_left h34']; rfl
          clear h34 h34'
          have HQ : Hid (q1 ch = [92, ch]) := Lib.hid (by unfold q1; rw [if_pos H34.out])
          have HX2 : Hid (bcells (b ++ q1 ch) = bcells b ++ [.int .u8 92, .int .u8 (cv : Nat)]) := Lib.hid (by rw [bcells_append, HQ.out]; simp [bcells, HCV.out])
          have HL : Hid ((b ++ q1 ch).length = m + 2) := Lib.hid (by rw [List.length_append, HQ.out, ← HM.out]; rfl)
          obtain ⟨hi0, hz0, hz1, hz2⟩ := HI.out
          go_wp2_with (at_builtin; refine wpList_append_own _ rfl (.tmp 26) (.tmp 28) 73 rfl w.heap.size 5 i0 (.int .u8 0) 1 1 Tryd.underlying73 hi0 hz0 hz1 hz2 rfl (by decide) (.slice A m cap) m (bcells b) rfl (HO.out.alloc _) ⟨wr.heap.size, 0, none⟩ 2 2 [.int .u8 92, .int .u8 (cv : Nat)] rfl rfl (cells_new _ _ _) (by intro u hu; simp only [List.mem_cons, List.not_mem_nil, or_false] at hu; rcases hu with rfl | rfl <;> rfl) (by unfold maxLen; omega) (by omega) (by have := HB.out.size; simp; omega) ?_; intro v3 w3 ho3 hg3 _; obtain ⟨A3, c3, rfl, _⟩ := own_form ho3; have HO3 := Lib.hid ho3; have HG3 := Lib.hid hg3; clear ho3 hg3)
          go_wp2_with fail
          go_roundw
          case rel => exact ⟨k + 1, b ++ q1 ch, A3, c3, by go_num, by rw [HL.out], by omega, by rw [HTK.out, List.flatMap_append, ← List.cons_append, ← HBD.out]; simp, by rw [HL.out]; omega, by rw [HL.out, HX2.out]; exact HO3.out, (HB.out.alloc HB.out.size _).grown HG3.out (by have := HB.out.size; simp; omega) (fun g hg => (World.ownsRow.lt HO.out g hg).1)⟩
          case measure => simp [intOf]; omega
      · have H34 : Hid (¬ (ch = 34 ∨ ch = 92)) := Lib.hid (fun h => h34 (h.imp (fun h => HCV.out.trans ((HE.out 34).1 h)) (fun h => HCV.out.trans ((HE.out 92).1 h))))
        have e34 : ((cv : Int) == 34) = false := by rw [beq_eq_false_iff_ne]; omega
        have e92 : ((cv : Int) == 92) = false := by rw [beq_eq_false_iff_ne]; omega
        clear h34
        by_cases h10 : cv = 10
        · have e10 : ((cv : Int) == 10) = true := by rw [h10]; rfl
          have HQ : Hid (q1 ch = [92, 110]) := Lib.hid (by unfold q1; rw [if_neg H34.out, if_pos ((HE.out 10).2 (HCV.out.symm.trans h10))])
          have HX2 : Hid (bcells (b ++ q1 ch) = bcells b ++ [.int .u8 92, .int .u8 110]) := Lib.hid (by rw [bcells_append, HQ.out]; simp [bcells, HCV.out])
          have HL : Hid ((b ++ q1 ch).length = m + 2) := Lib.hid (by rw [List.length_append, HQ.out, ← HM.out]; rfl)
          obtain ⟨hi0, hz0, hz1, hz2⟩ := HI.out
          go_wp2_with (at_builtin; refine wpList_append_own _ rfl (.tmp 33) (.tmp 34) 73 rfl w.heap.size 5 i0 (.int .u8 0) 1 1 Tryd.underlying73 hi0 hz0 hz1 hz2 rfl (by decide) (.slice A m cap) m (bcells b) rfl (HO.out.alloc _) ⟨wr.heap.size, 0, none⟩ 2 2 [.int .u8 92, .int .u8 110] rfl rfl (cells_new _ _ _) (by intro u hu; simp only [List.mem_cons, List.not_mem_nil, or_false] at hu; rcases hu with rfl | rfl <;> rfl) (by unfold maxLen; omega) (by omega) (by have := HB.out.size; simp; omega) ?_; intro v3 w3 ho3 hg3 _; obtain ⟨A3, c3, rfl, _⟩ := own_form ho3; have HO3 := Lib.hid ho3; have HG3 := Lib.hid hg3; clear ho3 hg3)
          go_wp2_with fail
          go_roundw
          case rel => exact ⟨k + 1, b ++ q1 ch, A3, c3, by go_num, by rw [HL.out], by omega, by rw [HTK.out, List.flatMap_append, ← List.cons_append, ← HBD.out]; simp, by rw [HL.out]; omega, by rw [HL.out, HX2.out]; exact HO3.out, (HB.out.alloc HB.out.size _).grown HG3.out (by have := HB.out.size; simp; omega) (fun g hg => (World.ownsRow.lt HO.out g hg).1)⟩
          case measure => simp [intOf]; omega
        · have e10 : ((cv : Int) == 10) = false := by rw [beq_eq_false_iff_ne]; omega
          by_cases h32 : cv < 32
          · have e32 : decide ((cv : Int) < 32) = true := decide_eq_true (by omega)
            have e32' : decide (cv < 32) = true := decide_eq_true h32
            have H12 : Hid (q1 ch = [92, 120, hx (cv / 16), hx (cv % 16)]) := Lib.hid (by unfold q1; rw [if_neg H34.out, if_neg (fun h => h10 (HCV.out.trans ((HE.out 10).1 h))), if_pos (by rw [← HCV.out]; omega), ← HCV.out])
            have HX2 : Hid (bcells (b ++ q1 ch) = bcells b ++ [.int .u8 92, .int .u8 120, .int .u8 ((hx (cv / 16)).toNat : Nat), .int .u8 ((hx (cv % 16)).toNat : Nat)]) := Lib.hid (by rw [bcells_append, H12.out]; rfl)
            have HL : Hid ((b ++ q1 ch).length = m + 4) := Lib.hid (by rw [List.length_append, H12.out, ← HM.out]; rfl)
            obtain ⟨hi0, hz0, hz1, hz2⟩ := HI.out
            have HB7 : Hid (Below wr.heap.size wr (wr.drew.alloc (.cells #[.int .u8 92, .int .u8 120, .int .u8 ((hx (cv / 16)).toNat : Nat), .int .u8 ((hx (cv % 16)).toNat : Nat)] 5)) ∧ Blk (wr.drew.alloc (.cells #[.int .u8 92, .int .u8 120, .int .u8 ((hx (cv / 16)).toNat : Nat), .int .u8 ((hx (cv % 16)).toNat : Nat)] 5)) wr.heap.size 5 #[.int .u8 92, .int .u8 120, .int .u8 ((hx (cv / 16)).toNat : Nat), .int .u8 ((hx (cv % 16)).toNat : Nat)]) := Lib.hid ⟨(Below.refl _ _).drew.alloc (Nat.le_refl _) _, Blk.new wr.drew _ _⟩
            have HO7 : Hid ((wr.drew.alloc (.cells #[.int .u8 92, .int .u8 120, .int .u8 ((hx (cv / 16)).toNat : Nat), .int .u8 ((hx (cv % 16)).toNat : Nat)] 5)).ownsRow w.heap.size 5 1 (.slice A m cap) m (bcells b)) := Lib.hid (own_below HO.out HB7.out.1)
            go_wp2_with fail
            refine wp_region_plan (.q 0 (.q 1 (.q 2 (.q 3 (.q 4 (.q 5 (.q 6 (.a1 7 (.a1 8 (.q 9 .fin)))))))))) 8 (fun W => True) (by kernel_rfl) rfl (by kernel_rfl) trivial ?_
            refine wpPlan_q rfl rfl rfl ?_; intro K hK
            go_big_quiet_op
            first | go_big_quiet_on | (refine ⟨_, fun _ _ => rfl, ?_⟩; go_big_quiet_on)
            refine wpPlan_q rfl rfl rfl ?_; intro K hK
            go_big_quiet_op
            first | go_big_quiet_on | (refine ⟨_, fun _ _ => rfl, ?_⟩; go_big_quiet_on)
            refine wpPlan_q rfl rfl rfl ?_; intro K hK
            go_big_quiet_op
            first | go_big_quiet_on | (refine ⟨_, fun _ _ => rfl, ?_⟩; go_big_quiet_on)
            refine wpPlan_q rfl rfl rfl ?_; intro K hK
            refine ⟨(.int .u8 ((hx (cv / 16)).toNat : Nat)), fun W hW => ?_, ?_⟩
            · have hq : cv / 16 < 16 := by omega
              have hd : (0 : Int) ≤ (cv : Int) / 16 ∧ (cv : Int) / 16 < 16 := by omega
              have hd1 := hd.1
              have hd2 := hd.2
              unfold Oper.quietAt Oper.quietUpon
              simp [go_sem, hd]
              exact congrArg (fun z : UInt8 => ((z.toNat : Nat) : Int)) (hex_getz (by omega) hq _)
            refine hK _ ?_
            clear hK K
            try simp only [Act.put, List.setIfInBounds_toArray, List.set_cons_succ, List.set_cons_zero]
            refine wpPlan_q rfl rfl rfl ?_; intro K hK
            go_big_quiet_op
            first | go_big_quiet_on | (refine ⟨_, fun _ _ => rfl, ?_⟩; go_big_quiet_on)
            refine wpPlan_q rfl rfl rfl ?_; intro K hK
            go_big_quiet_op
            first | go_big_quiet_on | (refine ⟨_, fun _ _ => rfl, ?_⟩; go_big_quiet_on)
            refine wpPlan_q rfl rfl rfl ?_; intro K hK
            refine ⟨(.int .u8 ((hx (cv % 16)).toNat : Nat)), fun W hW => ?_, ?_⟩
            · have hq : cv % 16 < 16 := by omega
              have hd : (0 : Int) ≤ (cv : Int) % 16 ∧ (cv : Int) % 16 < 16 := by omega
              have hd1 := hd.1
              have hd2 := hd.2
              unfold Oper.quietAt Oper.quietUpon
              simp [go_sem, hd]
              exact congrArg (fun z : UInt8 => ((z.toNat : Nat) : Int)) (hex_getz (by omega) hq _)
            refine hK _ ?_
            clear hK K
            try simp only [Act.put, List.setIfInBounds_toArray, List.set_cons_succ, List.set_cons_zero]
            refine wpPlan_act true rfl rfl rfl ?_; intro K hK
            go_simp
            refine hK _ _ (fun _ => trivial) ?_
            clear hK K
            try simp only [Act.put, List.setIfInBounds_toArray, List.set_cons_succ, List.set_cons_zero]
            refine wpPlan_act false rfl rfl rfl ?_; intro K hK
            refine wp_append_any _ (.tmp 43) (.tmp 50) 73 rfl w.heap.size 5 i0 (.int .u8 0) 1 1 Tryd.underlying73 hi0 hz0 hz1 hz2 rfl (by decide) (.slice A m cap) m (bcells b) rfl HO7.out (wr.heap.size + 1) (some ⟨wr.heap.size, 0, none⟩) 4 4 [.int .u8 92, .int .u8 120, .int .u8 ((hx (cv / 16)).toNat : Nat), .int .u8 ((hx (cv % 16)).toNat : Nat)] rfl (reads_n HB7.out.2 rfl (Nat.lt_succ_self _)) (by intro u hu; simp only [List.mem_cons, List.not_mem_nil, or_false] at hu; rcases hu with rfl | rfl | rfl | rfl <;> rfl) (by unfold maxLen; omega) (by omega) (Nat.le_trans HB.out.size HB7.out.1.size) ?_
            intro v3 w3 ho3 hg3 _
            obtain ⟨A3, c3, rfl, _⟩ := own_form ho3
            have HO3 := Lib.hid ho3
            have HG3 := Lib.hid hg3
            clear ho3 hg3
            refine hK _ _ (fun h => by cases h) ?_
            clear hK K
            try simp only [Act.put, List.setIfInBounds_toArray, List.set_cons_succ, List.set_cons_zero]
            refine wpPlan_p rfl rfl rfl ?_; intro K hK
            go_big_quiet_op
            first | go_big_quiet_on | (refine ⟨_, fun _ _ => rfl, ?_⟩; go_big_quiet_on)
            refine wpPlan_fin ?_
            go_wp2_with fail
            go_roundw
            case rel => exact ⟨k + 1, b ++ q1 ch, A3, c3, by go_num, by rw [HL.out], by omega, by rw [HTK.out, List.flatMap_append, ← List.cons_append, ← HBD.out]; simp, by rw [HL.out]; omega, by rw [HL.out, HX2.out]; exact HO3.out, (HB.out.trans (HB7.out.1.mono HB.out.size)).grown HG3.out (Nat.le_trans HB.out.size HB7.out.1.size) (fun g hg => (World.ownsRow.lt HO.out g hg).1)⟩
            case measure => simp [intOf]; omega
          · have e32 : decide ((cv : Int) < 32) = false := decide_eq_false (by omega)
            have e32' : decide (cv < 32) = false := decide_eq_false h32
            by_cases h126 : 126 < cv
            · have e126 : decide ((cv : Int) > 126) = true := decide_eq_true (by omega)
              have e126' : decide (126 < cv) = true := decide_eq_true h126
              have H12 : Hid (q1 ch = [92, 120, hx (cv / 16), hx (cv % 16)]) := Lib.hid (by unfold q1; rw [if_neg H34.out, if_neg (fun h => h10 (HCV.out.trans ((HE.out 10).1 h))), if_pos (by rw [← HCV.out]; omega), ← HCV.out])
              have HX2 : Hid (bcells (b ++ q1 ch) = bcells b ++ [.int .u8 92, .int .u8 120, .int .u8 ((hx (cv / 16)).toNat : Nat), .int .u8 ((hx (cv % 16)).toNat : Nat)]) := Lib.hid (by rw [bcells_append, H12.out]; rfl)
              have HL : Hid ((b ++ q1 ch).length = m + 4) := Lib.hid (by rw [List.length_append, H12.out, ← HM.out]; rfl)
              obtain ⟨hi0, hz0, hz1, hz2⟩ := HI.out
              have HB7 : Hid (Below wr.heap.size wr (wr.drew.alloc (.cells #[.int .u8 92, .int .u8 120, .int .u8 ((hx (cv / 16)).toNat : Nat), .int .u8 ((hx (cv % 16)).toNat : Nat)] 5)) ∧ Blk (wr.drew.alloc (.cells #[.int .u8 92, .int .u8 120, .int .u8 ((hx (cv / 16)).toNat : Nat), .int .u8 ((hx (cv % 16)).toNat : Nat)] 5)) wr.heap.size 5 #[.int .u8 92, .int .u8 120, .int .u8 ((hx (cv / 16)).toNat : Nat), .int .u8 ((hx (cv % 16)).toNat : Nat)]) := Lib.hid ⟨(Below.refl _ _).drew.alloc (Nat.le_refl _) _, Blk.new wr.drew _ _⟩
              have HO7 : Hid ((wr.drew.alloc (.cells #[.int .u8 92, .int .u8 120, .int .u8 ((hx (cv / 16)).toNat : Nat), .int .u8 ((hx (cv % 16)).toNat : Nat)] 5)).ownsRow w.heap.size 5 1 (.slice A m cap) m (bcells b)) := Lib.hid (own_below HO.out HB7.out.1)
              go_wp2_with fail
              refine wp_region_plan (.q 0 (.q 1 (.q 2 (.q 3 (.q 4 (.q 5 (.q 6 (.a1 7 (.a1 8 (.q 9 .fin)))))))))) 8 (fun W => True) (by kernel_rfl) rfl (by kernel_rfl) trivial ?_
              refine wpPlan_q rfl rfl rfl ?_; intro K hK
              go_big_quiet_op
              first | go_big_quiet_on | (refine ⟨_, fun _ _ => rfl, ?_⟩; go_big_quiet_on)
              refine wpPlan_q rfl rfl rfl ?_; intro K hK
              go_big_quiet_op
              first | go_big_quiet_on | (refine ⟨_, fun _ _ => rfl, ?_⟩; go_big_quiet_on)
              refine wpPlan_q rfl rfl rfl ?_; intro K hK
              go_big_quiet_op
              first | go_big_quiet_on | (refine ⟨_, fun _ _ => rfl, ?_⟩; go_big_quiet_on)
              refine wpPlan_q rfl rfl rfl ?_; intro K hK
              refine ⟨(.int .u8 ((hx (cv / 16)).toNat : Nat)), fun W hW => ?_, ?_⟩
              · have hq : cv / 16 < 16 := by omega
                have hd : (0 : Int) ≤ (cv : Int) / 16 ∧ (cv : Int) / 16 < 16 := by omega
                have hd1 := hd.1
                have hd2 := hd.2
                unfold Oper.quietAt Oper.quietUpon
                simp [go_sem, hd]
                exact congrArg (fun z : UInt8 => ((z.toNat : Nat) : Int)) (hex_getz (by omega) hq _)
              refine hK _ ?_
              clear hK K
              try simp only [Act.put, List.setIfInBounds_toArray, List.set_cons_succ, List.set_cons_zero]
              refine wpPlan_q rfl rfl rfl ?_; intro K hK
              go_big_quiet_op
              first | go_big_quiet_on | (refine ⟨_, fun _ _ => rfl, ?_⟩; go_big_quiet_on)
              refine wpPlan_q rfl rfl rfl ?_; intro K hK
              go_big_quiet_op
              first | go_big_quiet_on | (refine ⟨_, fun _ _ => rfl, ?_⟩; go_big_quiet_on)
              refine wpPlan_q rfl rfl rfl ?_; intro K hK
              refine ⟨(.int .u8 ((hx (cv % 16)).toNat : Nat)), fun W hW => ?_, ?_⟩
              · have hq : cv % 16 < 16 := by omega
                have hd : (0 : Int) ≤ (cv : Int) % 16 ∧ (cv : Int) % 16 < 16 := by omega
                have hd1 := hd.1
                have hd2 := hd.2
                unfold Oper.quietAt Oper.quietUpon
                simp [go_sem, hd]
                exact congrArg (fun z : UInt8 => ((z.toNat : Nat) : Int)) (hex_getz (by omega) hq _)
              refine hK _ ?_
              clear hK K
              try simp only [Act.put, List.setIfInBounds_toArray, List.set_cons_succ, List.set_cons_zero]
              refine wpPlan_act true rfl rfl rfl ?_; intro K hK
              go_simp
              refine hK _ _ (fun _ => trivial) ?_
              clear hK K
              try simp only [Act.put, List.setIfInBounds_toArray, List.set_cons_succ, List.set_cons_zero]
              refine wpPlan_act false rfl rfl rfl ?_; intro K hK
              refine wp_append_any _ (.tmp 43) (.tmp 50) 73 rfl w.heap.size 5 i0 (.int .u8 0) 1 1 Tryd.underlying73 hi0 hz0 hz1 hz2 rfl (by decide) (.slice A m cap) m (bcells b) rfl HO7.out (wr.heap.size + 1) (some ⟨wr.heap.size, 0, none⟩) 4 4 [.int .u8 92, .int .u8 120, .int .u8 ((hx (cv / 16)).toNat : Nat), .int .u8 ((hx (cv % 16)).toNat : Nat)] rfl (reads_n HB7.out.2 rfl (Nat.lt_succ_self _)) (by intro u hu; simp only [List.mem_cons, List.not_mem_nil, or_false] at hu; rcases hu with rfl | rfl | rfl | rfl <;> rfl) (by unfold maxLen; omega) (by omega) (Nat.le_trans HB.out.size HB7.out.1.size) ?_
              intro v3 w3 ho3 hg3 _
              obtain ⟨A3, c3, rfl, _⟩ := own_form ho3
              have HO3 := Lib.hid ho3
              have HG3 := Lib.hid hg3
              clear ho3 hg3
              refine hK _ _ (fun h => by cases h) ?_
              clear hK K
              try simp only [Act.put, List.setIfInBounds_toArray, List.set_cons_succ, List.set_cons_zero]
              refine wpPlan_p rfl rfl rfl ?_; intro K hK
              go_big_quiet_op
              first | go_big_quiet_on | (refine ⟨_, fun _ _ => rfl, ?_⟩; go_big_quiet_on)
              refine wpPlan_fin ?_
              go_wp2_with fail
              go_roundw
              case rel => exact ⟨k + 1, b ++ q1 ch, A3, c3, by go_num, by rw [HL.out], by omega, by rw [HTK.out, List.flatMap_append, ← List.cons_append, ← HBD.out]; simp, by rw [HL.out]; omega, by rw [HL.out, HX2.out]; exact HO3.out, (HB.out.trans (HB7.out.1.mono HB.out.size)).grown HG3.out (Nat.le_trans HB.out.size HB7.out.1.size) (fun g hg => (World.ownsRow.lt HO.out g hg).1)⟩
              case measure => simp [intOf]; omega
            · have e126 : decide ((cv : Int) > 126) = false := decide_eq_false (by omega)
              have e126' : decide (126 < cv) = false := decide_eq_false h126
              have HQ : Hid (q1 ch = [ch]) := Lib.hid (by unfold q1; rw [if_neg H34.out, if_neg (fun h => h10 (HCV.out.trans ((HE.out 10).1 h))), if_neg (by rw [← HCV.out]; omega)])
              have HX2 : Hid (bcells (b ++ q1 ch) = bcells b ++ [.int .u8 (cv : Nat)]) := Lib.hid (by rw [bcells_append, HQ.out]; simp [bcells, HCV.out])
              have HL : Hid ((b ++ q1 ch).length = m + 1) := Lib.hid (by rw [List.length_append, HQ.out, ← HM.out]; rfl)
              obtain ⟨hi0, hz0, hz1, hz2⟩ := HI.out
              go_wp2_with (at_builtin; refine wpList_append_own _ rfl (.tmp 15) (.tmp 17) 73 rfl w.heap.size 5 i0 (.int .u8 0) 1 1 Tryd.underlying73 hi0 hz0 hz1 hz2 rfl (by decide) (.slice A m cap) m (bcells b) rfl (HO.out.alloc _) ⟨wr.heap.size, 0, none⟩ 1 1 [.int .u8 (cv : Nat)] rfl rfl (cells_new _ _ _) (by intro u hu; simp only [List.mem_cons, List.not_mem_nil, or_false] at hu; rcases hu with rfl <;> rfl) (by unfold maxLen; omega) (by omega) (by have := HB.out.size; simp; omega) ?_; intro v3 w3 ho3 hg3 _; obtain ⟨A3, c3, rfl, _⟩ := own_form ho3; have HO3 := Lib.hid ho3; have HG3 := Lib.hid hg3; clear ho3 hg3)
              go_wp2_with fail
              go_roundw
              case rel => exact ⟨k + 1, b ++ q1 ch, A3, c3, by go_num, by rw [HL.out], by omega, by rw [HTK.out, List.flatMap_append, ← List.cons_append, ← HBD.out]; simp, by rw [HL.out]; omega, by rw [HL.out, HX2.out]; exact HO3.out, (HB.out.alloc HB.out.size _).grown HG3.out (by have := HB.out.size; simp; omega) (fun g hg => (World.ownsRow.lt HO.out g hg).1)⟩
              case measure => simp [intOf]; omega
    · have di : decide ((k : Int) < (n : Int)) = false := decide_eq_false (by omega)
      obtain ⟨hi0, hz0, hz1, hz2⟩ := HI.out
      have HF : Hid (R = b ++ [34]) := Lib.hid (by
        rw [HR0.out]
        unfold quoteL
        rw [HBD.out, List.take_of_length_le (by rw [← HN.out]; omega)]
        rfl)
      have HX2 : Hid (bcells (b ++ [34]) = bcells b ++ [.int .u8 34]) := Lib.hid (by rw [bcells_append]; rfl)
      go_wp2_with (at_builtin; refine wpList_append_own _ rfl (.tmp 53) (.tmp 54) 73 rfl w.heap.size 5 i0 (.int .u8 0) 1 1 Tryd.underlying73 hi0 hz0 hz1 hz2 rfl (by decide) (.slice A m cap) m (bcells b) rfl (HO.out.alloc _) ⟨wr.heap.size, 0, none⟩ 1 1 [.int .u8 34] rfl rfl (cells_new _ _ _) (by intro u hu; simp only [List.mem_cons, List.not_mem_nil, or_false] at hu; rcases hu with rfl <;> rfl) (by unfold maxLen; omega) (by omega) (by have := HB.out.size; simp; omega) ?_; intro v3 w3 ho3 hg3 _; obtain ⟨A3, c3, rfl, _⟩ := own_form ho3; have HO3 := Lib.hid ho3; have HG3 := Lib.hid hg3; clear ho3 hg3)
      have hstr := run_str_own (P := Tryd.prog) w3 73 9 5 w.heap.size (.slice A3 (m + 1) c3) (m + 1) (b ++ [34]) Tryd.underlying73 Tryd.underlying5 Tryd.underlying9 (by rw [List.length_append, ← HM.out]; rfl) (by rw [HX2.out]; exact HO3.out)
      rw [hstr]
      simp only [Result.andThen]
      rw [Oper.upon_value]
      go_wp2_with fail
      go_ret
      exact ⟨by rw [HF.out]; simp, (HB.out.alloc HB.out.size _).grown HG3.out (by have := HB.out.size; simp; omega) (fun g hg => (World.ownsRow.lt HO.out g hg).1)⟩
end Go.Proofs.YtbcadlocldplfaaDoor.T7
namespace Go.Proofs
open Go.Shelf
def Tryd.lays170_ren : Go.Shelf.Ren := ⟨fun | 170 => 45 | n => n, fun | 70 => 72 | 3 => 3 | 0 => 0 | 72 => 75 | 37 => 73 | 5 => 5 | n => n, fun | n => n⟩
theorem Tryd.lays170 : Go.Proofs.Lays.n170 Tryd.prog Tryd.lays170_ren := {
  mixed := by kernel_rfl
  f170 := Tryd.func45.trans (congrArg some (by kernel_rfl))
  t0 := Tryd.underlying0
  a0 := Tryd.isAgg0
  z0 := Tryd.sizeOf0
  v0 := Tryd.zeroValue0
  t3 := Tryd.underlying3
  a3 := Tryd.isAgg3
  z3 := Tryd.sizeOf3
  v3 := Tryd.zeroValue3
  t37 := Tryd.underlying73
  a37 := Tryd.isAgg73
  z37 := Tryd.sizeOf73
  v37 := Tryd.zeroValue73
  t70 := Tryd.underlying72
  a70 := Tryd.isAgg72
  z70 := Tryd.sizeOf72
  v70 := Tryd.zeroValue72
  t72 := Tryd.underlying75
  a72 := Tryd.isAgg75
  z72 := Tryd.sizeOf75
  v72 := Tryd.zeroValue75 }
open Go.RowKit in
theorem Tryd.Builder_Len (B b : Nat) (bs : List Value) (w : World) (h : Lib.IsBuilder 75 5 B b bs w) :
    Calls Tryd.prog 45 #[.pointer (some ⟨b, 0, none⟩)] w fun e w' => e = .returned (.int .i64 bs.length) ∧ w' = w := Any.Builder_Len Tryd.lays170 B b bs w h
def Tryd.lays169_ren : Go.Shelf.Ren := ⟨fun | 169 => 50 | n => n, fun | 70 => 72 | 9 => 9 | 0 => 0 | 72 => 75 | 37 => 73 | 127 => 117 | 3 => 3 | 5 => 5 | n => n, fun | n => n⟩
theorem Tryd.lays169 : Go.Proofs.Lays.n169 Tryd.prog Tryd.lays169_ren := {
  mixed := by kernel_rfl
  f169 := Tryd.func50.trans (congrArg some (by kernel_rfl))
  t0 := Tryd.underlying0
  a0 := Tryd.isAgg0
  z0 := Tryd.sizeOf0
  v0 := Tryd.zeroValue0
  t3 := Tryd.underlying3
  a3 := Tryd.isAgg3
  z3 := Tryd.sizeOf3
  v3 := Tryd.zeroValue3
  t9 := Tryd.underlying9
  a9 := Tryd.isAgg9
  z9 := Tryd.sizeOf9
  v9 := Tryd.zeroValue9
  t37 := Tryd.underlying73
  a37 := Tryd.isAgg73
  z37 := Tryd.sizeOf73
  v37 := Tryd.zeroValue73
  t70 := Tryd.underlying72
  a70 := Tryd.isAgg72
  z70 := Tryd.sizeOf72
  v70 := Tryd.zeroValue72
  t72 := Tryd.underlying75
  a72 := Tryd.isAgg75
  z72 := Tryd.sizeOf75
  v72 := Tryd.zeroValue75
  t127 := Tryd.underlying117
  a127 := Tryd.isAgg117
  z127 := Tryd.sizeOf117
  v127 := Tryd.zeroValue117 }
theorem Tryd.Builder_Extra_169 : Builder.Extra Tryd.prog Tryd.lays169_ren := {
  sizeBuilder := by kernel_rfl
  liesBuilder := by kernel_rfl
  t5 := Tryd.underlying5
  a5 := Tryd.isAgg5
  z5 := Tryd.sizeOf5
  v5 := Tryd.zeroValue5
  infoByte := by kernel_rfl
  cellsByte := by kernel_rfl
  sizeByte := by kernel_rfl
  neB5 := by decide }
open Go.RowKit in
theorem Tryd.Builder_String_any (B b : Nat) (l : List UInt8) (w : World) (h : Lib.IsBuilder 75 5 B b (Lib.byteCells l) w) (hBw : B ≤ w.heap.size) :
    Calls Tryd.prog 50 #[.pointer (some ⟨b, 0, none⟩)] w fun e w' => e = .returned (.string ⟨l.toArray⟩) ∧ Below B w w' := Any.Builder_String_any Tryd.lays169 Tryd.Builder_Extra_169 B b l w h hBw
def Tryd.laysM246_ren : Go.Shelf.Ren := ⟨fun | 246 => 89 | 283 => 113 | 284 => 114 | 285 => 115 | 286 => 116 | 129 => 126 | 317 => 125 | 318 => 127 | 319 => 128 | 320 => 129 | 337 => 133 | 338 => 134 | n => n, fun | 2 => 2 | 3 => 3 | 9 => 9 | 4 => 4 | 171 => 127 | 0 => 0 | 53 => 115 | 37 => 73 | 5 => 5 | 173 => 130 | 212 => 137 | 51 => 138 | 20 => 20 | 213 => 139 | 46 => 116 | 232 => 144 | 233 => 145 | n => n, fun | 17 => 1 | 18 => 2 | 19 => 3 | n => n⟩
theorem Tryd.laysM246 : Go.Proofs.LaysM.n246 Tryd.prog Tryd.laysM246_ren := {
  mixed := by kernel_rfl
  f129 := Tryd.func126.trans (congrArg some (by kernel_rfl))
  f246 := Tryd.func89.trans (congrArg some (by kernel_rfl))
  f283 := Tryd.func113.trans (congrArg some (by kernel_rfl))
  f284 := Tryd.func114.trans (congrArg some (by kernel_rfl))
  f285 := Tryd.func115.trans (congrArg some (by kernel_rfl))
  f286 := Tryd.func116.trans (congrArg some (by kernel_rfl))
  f317 := Tryd.func125.trans (congrArg some (by kernel_rfl))
  f318 := Tryd.func127.trans (congrArg some (by kernel_rfl))
  f319 := Tryd.func128.trans (congrArg some (by kernel_rfl))
  f320 := Tryd.func129.trans (congrArg some (by kernel_rfl))
  f337 := Tryd.func133.trans (congrArg some (by kernel_rfl))
  f338 := Tryd.func134.trans (congrArg some (by kernel_rfl))
  t0 := Tryd.underlying0
  a0 := Tryd.isAgg0
  z0 := Tryd.sizeOf0
  v0 := Tryd.zeroValue0
  t2 := Tryd.underlying2
  a2 := Tryd.isAgg2
  z2 := Tryd.sizeOf2
  v2 := Tryd.zeroValue2
  t3 := Tryd.underlying3
  a3 := Tryd.isAgg3
  z3 := Tryd.sizeOf3
  v3 := Tryd.zeroValue3
  t4 := Tryd.underlying4
  a4 := Tryd.isAgg4
  z4 := Tryd.sizeOf4
  v4 := Tryd.zeroValue4
  t5 := Tryd.underlying5
  a5 := Tryd.isAgg5
  z5 := Tryd.sizeOf5
  v5 := Tryd.zeroValue5
  t9 := Tryd.underlying9
  a9 := Tryd.isAgg9
  z9 := Tryd.sizeOf9
  v9 := Tryd.zeroValue9
  t20 := Tryd.underlying20
  a20 := Tryd.isAgg20
  z20 := Tryd.sizeOf20
  v20 := Tryd.zeroValue20
  t37 := Tryd.underlying73
  a37 := Tryd.isAgg73
  z37 := Tryd.sizeOf73
  v37 := Tryd.zeroValue73
  t46 := Tryd.underlying116
  a46 := Tryd.isAgg116
  z46 := Tryd.sizeOf116
  v46 := Tryd.zeroValue116
  t51 := Tryd.underlying138
  a51 := Tryd.isAgg138
  z51 := Tryd.sizeOf138
  v51 := Tryd.zeroValue138
  t53 := Tryd.underlying115
  a53 := Tryd.isAgg115
  z53 := Tryd.sizeOf115
  v53 := Tryd.zeroValue115
  t171 := Tryd.underlying127
  a171 := Tryd.isAgg127
  z171 := Tryd.sizeOf127
  v171 := Tryd.zeroValue127
  t173 := Tryd.underlying130
  a173 := Tryd.isAgg130
  z173 := Tryd.sizeOf130
  v173 := Tryd.zeroValue130
  t212 := Tryd.underlying137
  a212 := Tryd.isAgg137
  z212 := Tryd.sizeOf137
  v212 := Tryd.zeroValue137
  t213 := Tryd.underlying139
  a213 := Tryd.isAgg139
  z213 := Tryd.sizeOf139
  t232 := Tryd.underlying144
  a232 := Tryd.isAgg144
  z232 := Tryd.sizeOf144
  v232 := Tryd.zeroValue144
  t233 := Tryd.underlying145
  a233 := Tryd.isAgg145
  z233 := Tryd.sizeOf145
  v233 := Tryd.zeroValue145
  g17 := by kernel_rfl
  g18 := by kernel_rfl
  g19 := by kernel_rfl
  i0 := by kernel_rfl
  i2 := by kernel_rfl
  i3 := by kernel_rfl
  i4 := by kernel_rfl
  i5 := by kernel_rfl
  i9 := by kernel_rfl
  i20 := by kernel_rfl
  i37 := by kernel_rfl
  i46 := by kernel_rfl
  i51 := by kernel_rfl
  i53 := by kernel_rfl
  i171 := by kernel_rfl
  i173 := by kernel_rfl
  i212 := by kernel_rfl
  i232 := by kernel_rfl
  i233 := by kernel_rfl
  m17 := by kernel_rfl
  m18 := by kernel_rfl
  m19 := by kernel_rfl }
open Go.RowKit Go.Sort Go.Lib in
theorem Tryd.internal_strconv_FormatInt_10 (n : Int) (h0 : -9223372036854775808 ≤ n) (h1 : n ≤ 9223372036854775807) (w : World) (htab : Lib.TabIs Tryd.prog w "internal/strconv.uint64pow10" .u64 Lib.pow10Tab) :
    Calls Tryd.prog 89 #[.int .i64 n, .int .i64 10] w fun e w' => e = .returned (.string ⟨(Lib.itoa n).toArray⟩) ∧ ∃ k os, w' = grow (w.drewN k) os := Any.internal_strconv_FormatInt_10 Tryd.laysM246 n h0 h1 w htab
end Go.Proofs
namespace Go.Proofs.YtbcadlocldplfaaDoor.T7
set_option maxRecDepth 100000
open Go.RowKit
theorem info37 : (Tryd.prog.info? 75).map (·.size) = some 2 := by kernel_rfl
theorem infoB : (Tryd.prog.info? 5).map (fun i => (i.zero, i.size, i.bytes)) = some (some (.int .u8 0), 1, 1) := by kernel_rfl
theorem lies37 : liesAt Tryd.prog Tryd.prog.depth 75 (2 / Tryd.prog.cellsOf 75) 0 75 1 = true := by kernel_rfl
abbrev Bd (B b : Nat) (bs : List Value) (w : World) : Prop := Lib.BuilderAt 75 5 B b (.pointer (some ⟨b, 0, none⟩)) bs w
abbrev Bl (B b : Nat) (bs : List Value) (w : World) : Prop := Lib.IsBuilder 75 5 B b bs w
def Kp (w w' : World) : Prop := ∀ k t cs, Blk w k t cs → t ≠ 75 → t ≠ 5 → Blk w' k t cs
theorem Kp.refl (w : World) : Kp w w := fun _ _ _ h _ _ => h
theorem Kp.trans {a b c : World} (h : Kp a b) (k : Kp b c) : Kp a c := fun i t cs hi h1 h2 => k i t cs (h i t cs hi h1 h2) h1 h2
theorem Kp.of_chg {T : Nat → Prop} {w w' : World} (h : Chg T w w') (hT : ∀ k, T k → ∃ cs t, w.heap[k]? = some (.cells cs t (0, 0)) ∧ (t = 75 ∨ t = 5)) : Kp w w' := fun k t cs hk h1 h2 =>
  Blk.chg hk h (fun hTk => by
    obtain ⟨cs2, t2, e1, e2⟩ := hT k hTk
    have e3 : w.heap[k]? = some (.cells cs t (0, 0)) := hk
    rw [e1] at e3
    injection e3 with e3
    injection e3 with _ e3
    subst e3
    exact e2.elim h1 h2)
theorem Kp.of_below {w w' : World} (h : Below w.heap.size w w') : Kp w w' := fun _ _ _ hk _ _ => hk.below h hk.lt
theorem Kp.of_grown {w w' : World} {B n : Nat} {v : Value} {xs : List Value} (ho : w.ownsRow B 5 1 v n xs) (hg : w.grownBy w' v.ownBlock) : Kp w w' :=
  .of_chg (.of_grown hg (T := fun k => v.ownBlock = some k) (fun r hr => hr)) (fun k hk => by
    rcases ho.2 with ⟨rfl, _⟩ | ⟨g, cap, cur, rfl, _, hh, _⟩
    · cases hk
    · have e : g = k := by simpa [Value.ownBlock] using hk
      subst e
      exact ⟨cur, 5, hh, .inr rfl⟩)
theorem Kp.set_ {w : World} {b j : Nat} {cs : Array Value} (h : w.heap[b]? = some (.cells cs 75 (0, 0))) (u : Value) : Kp w (w.setCell ⟨b, j, none⟩ u) :=
  .of_chg (Chg.setCell (T := fun k => k = b) (Chg.refl _ _) (p := ⟨b, j, none⟩) rfl _) (fun k hk => by rw [hk]; exact ⟨cs, 75, h, .inl rfl⟩)
set_option maxRecDepth 100000 in
set_option maxHeartbeats 2000000 in
theorem check_any (B b : Nat) (bs : List Value) (w : World) (h : Bl B b bs w) :
    Calls Tryd.prog 88 #[.pointer (some ⟨b, 0, none⟩)] w fun e w' => e = .returned (.tuple #[]) ∧ Bd B b bs w' ∧ Below B w w' ∧ Kp w w' := by
  obtain ⟨j, hj, hjs⟩ := Option.map_eq_some_iff.1 info37
  rcases h with h | h
  · have c0 := h.cell0
    have hsh := h.shape
    have hfz := h.frozen0
    have HB := Lib.hid h
    clear h
    go_enter Tryd.func88, Tryd.ntmps88
    go_wp2_with fail
    rw [Lib.run_to_unsafe w ⟨b, 0, none⟩ Tryd.underlying72 Tryd.underlying124 hj (by rw [hjs]; decide) hsh (Nat.zero_lt_succ 1)]
    simp only [Result.andThen]
    rw [Oper.upon_value]
    go_wp2_with fail
    rw [run_callFunc_extern Tryd.func112 (by kernel_rfl) (by kernel_rfl) (by kernel_rfl) (e := Extern.AbiNoEscape.same) (by kernel_rfl), Lib.run_noEscape]
    simp only [Result.andThen]
    rw [Oper.upon_value]
    go_wp2_with fail
    rw [Lib.run_from_unsafe w ⟨b, 0, none⟩ Tryd.underlying124 Tryd.underlying72 hj hsh lies37]
    simp only [Result.andThen]
    rw [Oper.upon_value]
    go_wp2_with fail
    go_end0
    exact ⟨rfl, HB.out.used _, (Below.refl B w).setCell (p := ⟨b, 0, none⟩) HB.out.1 _, by obtain ⟨_, v, hh, _⟩ := HB.out; exact Kp.set_ hh _⟩
  · have c0 := h.cell0
    have HB := Lib.hid h
    clear h
    go_enter Tryd.func88, Tryd.ntmps88
    go_wp2_with fail
    rw [Lib.run_neq_ptr_same w _ Tryd.underlying72 hj]
    go_wp2_with fail
    go_end0
    exact ⟨rfl, HB.out, Below.refl B _, Kp.refl _⟩
theorem bd_grown {b : Nat} {v : Value} {w1 w2 : World} (hbk : w1.heap[b]? = some (.cells #[.pointer (some ⟨b, 0, none⟩), v] 75 (0, 0))) (hne : v.ownBlock ≠ some b) (hg : w1.grownBy w2 v.ownBlock) (hlt : b < w1.heap.size) :
    w2.heap[b]? = some (.cells #[.pointer (some ⟨b, 0, none⟩), v] 75 (0, 0)) := by
  rw [hg.block b hlt (fun e => hne e.symm)]
  exact hbk
theorem heap_lt {w : World} {b : Nat} {o : Obj} (h : w.heap[b]? = some o) : b < w.heap.size := by
  rcases Nat.lt_or_ge b w.heap.size with h' | h'
  · exact h'
  · rw [Array.getElem?_eq_none h'] at h; cases h
set_option maxRecDepth 100000 in
set_option maxHeartbeats 4000000 in
theorem wbyte_any (B b : Nat) (bs : List Value) (c : Int) (w : World) (h : Bl B b bs w) (hlen : bs.length + 1 ≤ 140737488355328) (hBw : B ≤ w.heap.size) :
    Calls Tryd.prog 46 #[.pointer (some ⟨b, 0, none⟩), .int .u8 c] w fun e w' => e = .returned .nilIface ∧ Bd B b (bs ++ [.int .u8 c]) w' ∧ Below B w w' ∧ Kp w w' := by
  obtain ⟨i0, hi, hz0, hz1, hz2⟩ := info_parts infoB
  have HC := Lib.hid (check_any B b bs w h)
  clear h
  go_enter Tryd.func46, Tryd.ntmps46
  go_wp2_with fail
  refine HC.out.mono ?_
  rintro e w1 ⟨rfl, ⟨hB, v, hbk, hown, hne⟩, hb1, hkp⟩
  have HKP := Lib.hid hkp
  clear hkp
  have c1 : w1.cell? ⟨b, 1, none⟩ = some v := by rw [Lib.cell_of_heap hbk]; rfl
  have HN := Lib.hid (And.intro hbk (And.intro hne (And.intro hb1 hB)))
  clear hbk hne hb1 HC
  go_wp2_with (at_builtin; refine wpList_append_own _ rfl _ _ 73 rfl B 5 i0 (.int .u8 0) 1 1 Tryd.underlying73 hi hz0 hz1 hz2 rfl (by decide) _ _ _ rfl (hown.alloc _) ⟨w1.heap.size, 0, none⟩ 1 1 [.int .u8 c] rfl rfl ?c1 ?c2 ?c3 ?c4 ?c5 ?_)
  case c1 =>
    intro j u hj
    match j, hj with
    | 0, hj => simp at hj; subst hj; simp [Addr.add]
  case c2 => intro u hu; simp at hu; subst hu; rfl
  case c3 => unfold maxLen; omega
  case c4 => omega
  case c5 => have := HN.out.2.2.1.size; simp; omega
  intro v' w2 hown' hgrow _
  have hlt := heap_lt HN.out.1
  have hb2 := bd_grown (b := b) (v := v) (w1 := w1.alloc (.cells #[.int .u8 c] 5)) (w2 := w2) (by rw [Lib.alloc_old w1 _ b hlt]; exact HN.out.1) HN.out.2.1 hgrow (by simp; omega)
  have d1 : w2.cell? ⟨b, 1, none⟩ = some v := by rw [Lib.cell_of_heap hb2]; rfl
  have f1 : w2.frozen? ⟨b, 1, none⟩ = false := Lib.frozen_of_heap hb2 1
  obtain ⟨g, cap, rfl⟩ : ∃ g cap, v' = .slice (some ⟨g, 0, none⟩) (bs.length + 1) cap := by
    rcases hown'.2 with ⟨_, h0⟩ | ⟨g, cap, cur, hv, _⟩
    · omega
    · exact ⟨g, cap, hv⟩
  have H2 := Lib.hid (And.intro hb2 (And.intro hown' hgrow))
  have HO := Lib.hid hown
  clear hb2 hown' hgrow c1 hown
  go_wp2_with fail
  go_ret
  refine ⟨rfl, Lib.BuilderAt.put (T := 75) (e := 5) HN.out.2.2.2 H2.out.1 (bs' := bs ++ [.int .u8 c]) (by simpa using H2.out.2.1) (by decide), ?_, (HKP.out.trans (Kp.of_below ((Below.refl _ _).alloc (Nat.le_refl _) _))).trans ((Kp.of_grown (HO.out.alloc _) H2.out.2.2).trans (Kp.set_ H2.out.1 _))⟩
  exact ((HN.out.2.2.1.alloc (by have := HN.out.2.2.1.size; omega) _).grown H2.out.2.2 (by have := HN.out.2.2.1.size; simp; omega) (fun k hk => (HO.out.lt k hk).1)).setCell (p := ⟨b, 1, none⟩) HN.out.2.2.2 _
set_option maxRecDepth 100000 in
set_option maxHeartbeats 4000000 in
theorem wstr_any (B b : Nat) (bs : List Value) (s : ByteArray) (w : World) (h : Bl B b bs w) (hlen : bs.length + s.size ≤ 140737488355328) (hBw : B ≤ w.heap.size) :
    Calls Tryd.prog 47 #[.pointer (some ⟨b, 0, none⟩), .string s] w fun e w' => e = .returned (.tuple #[.int .i64 s.size, .nilIface]) ∧ Bd B b (bs ++ Lib.strCells s) w' ∧ Below B w w' ∧ Kp w w' := by
  obtain ⟨i0, hi, hz0, hz1, hz2⟩ := info_parts infoB
  have HC := Lib.hid (check_any B b bs w h)
  clear h
  go_enter Tryd.func47, Tryd.ntmps47
  go_wp2_with fail
  refine HC.out.mono ?_
  rintro e w1 ⟨rfl, ⟨hB, v, hbk, hown, hne⟩, hb1, hkp⟩
  have HKP := Lib.hid hkp
  clear hkp
  have c1 : w1.cell? ⟨b, 1, none⟩ = some v := by rw [Lib.cell_of_heap hbk]; rfl
  have HN := Lib.hid (And.intro hbk (And.intro hne (And.intro hb1 hB)))
  clear hbk hne hb1 HC
  go_wp2_with (at_builtin; refine Lib.wpList_append_own_string _ rfl _ _ 73 9 rfl B 5 i0 Tryd.underlying73 Tryd.underlying9 hi hz0 hz1 hz2 _ _ _ rfl hown s rfl ?c3 ?c4 ?c5 ?_)
  case c3 => unfold maxLen; omega
  case c4 => omega
  case c5 => have := HN.out.2.2.1.size; omega
  intro v' w2 hown' hgrow _
  have hb2 := bd_grown HN.out.1 HN.out.2.1 hgrow (heap_lt HN.out.1)
  have d1 : w2.cell? ⟨b, 1, none⟩ = some v := by rw [Lib.cell_of_heap hb2]; rfl
  have f1 : w2.frozen? ⟨b, 1, none⟩ = false := Lib.frozen_of_heap hb2 1
  obtain ⟨ao, n', cap, rfl⟩ : ∃ ao n' cap, v' = .slice ao n' cap := by
    rcases hown'.2 with ⟨hv, _⟩ | ⟨g, cap, cur, hv, _⟩
    · exact ⟨_, _, _, hv⟩
    · exact ⟨_, _, _, hv⟩
  have H2 := Lib.hid (And.intro hb2 (And.intro hown' hgrow))
  have HO := Lib.hid hown
  clear hb2 hown' hgrow c1 hown
  go_wp2_with fail
  go_ret2
  refine ⟨rfl, Lib.BuilderAt.put (T := 75) (e := 5) HN.out.2.2.2 H2.out.1 (bs' := bs ++ Lib.strCells s) (by simpa [Lib.strCells_length] using H2.out.2.1) (by decide), ?_, HKP.out.trans ((Kp.of_grown HO.out H2.out.2.2).trans (Kp.set_ H2.out.1 _))⟩
  exact (HN.out.2.2.1.grown H2.out.2.2 (by have := HN.out.2.2.1.size; omega) (fun k hk => (HO.out.lt k hk).1)).setCell (p := ⟨b, 1, none⟩) HN.out.2.2.2 _
set_option maxRecDepth 100000 in
set_option maxHeartbeats 1000000 in
theorem fmt_any (n : Int) (h0 : -9223372036854775808 ≤ n) (h1 : n ≤ 9223372036854775807) (w : World) (htab : Lib.TabIs Tryd.prog w "internal/strconv.uint64pow10" .u64 Lib.pow10Tab) :
    Calls Tryd.prog 48 #[.int .i64 n, .int .i64 10] w fun e w' => e = .returned (.string ⟨(Lib.itoa n).toArray⟩) ∧ ∃ k os, w' = Sort.grow (w.drewN k) os := by
  have HF := Lib.hid (Tryd.internal_strconv_FormatInt_10 n h0 h1 w htab)
  clear htab
  go_enter Tryd.func48, Tryd.ntmps48
  go_wp2_with fail
  refine HF.out.mono ?_
  rintro e w' ⟨rfl, hw⟩
  have HW := Lib.hid hw
  clear hw
  go_wp2_with fail
  go_ret
  exact ⟨rfl, HW.out⟩
theorem tab_below {n : String} {k : IntKind} {zs : List Int} {w w' : World} (h : Lib.TabIs Tryd.prog w n k zs) (hb : Below w.heap.size w w') : Lib.TabIs Tryd.prog w' n k zs := by
  unfold Lib.TabIs World.var? at h ⊢
  cases hg : Tryd.prog.globalNamed n with
  | none => rw [hg] at h; simp at h
  | some g =>
    rw [hg] at h
    simp only [Option.bind_some] at h ⊢
    have hlt : g < w.heap.size := by
      rcases Nat.lt_or_ge g w.heap.size with h' | h'
      · exact h'
      · rw [Array.getElem?_eq_none h'] at h; cases h
    rw [hb.block g hlt]
    exact h
theorem below_grow (w : World) (k : Nat) (os : Array Obj) : Below w.heap.size w (Sort.grow (w.drewN k) os) :=
  ⟨rfl, rfl, rfl, by rw [Sort.size_grow]; exact Nat.le_add_right _ _, fun j hj => by
    show (w.heap ++ os)[j]? = _
    rw [Array.getElem?_append_left hj]⟩
theorem bl_below {B b : Nat} {bs : List Value} {w w' : World} (h : Bl B b bs w) (hb : Below w.heap.size w w') : Bl B b bs w' := by
  have key : ∀ p, Lib.BuilderAt 75 5 B b p bs w → Lib.BuilderAt 75 5 B b p bs w' := fun p ⟨h1, v, h2, h3, h4⟩ => ⟨h1, v, (hb.block b (heap_lt h2)).trans h2, own_below h3 hb, h4⟩
  exact h.imp (key _) (key _)
theorem right_len {x : Tz} (h : rightB x = true) (h2 : x.kind ≠ 2) (h3 : x.kind ≠ 3) {s : List UInt8} (hs : x.tx = s) : s.length ≤ 24 := by
  unfold rightB at h
  rw [if_neg h2, if_neg h3, hs] at h
  split at h
  · rw [Bool.and_eq_true] at h
    have h1 := h.1
    cases s with
    | nil => simp
    | cons c r =>
      unfold wordOk at h1
      rw [Bool.and_eq_true, Bool.and_eq_true, decide_eq_true_eq] at h1
      exact h1.1.1
  · split at h
    · rw [Bool.and_eq_true, decide_eq_true_eq] at h
      have h1 := h.1
      unfold sgn17 at h1
      simp only [List.mem_cons, List.not_mem_nil, or_false] at h1
      rcases h1 with h1 | h1 | h1 | h1 | h1 | h1 | h1 | h1 | h1 | h1 | h1 | h1 | h1 | h1 | h1 | h1 | h1 <;> rw [h1] <;> simp
    · cases h
theorem dec_len : ∀ (m u : Nat), u < 10 ^ (m + 1) → (Lib.decDigits u).length ≤ m + 1
  | 0, u, h => by rw [Lib.decDigits, dif_pos (by simpa using h)]; simp
  | m + 1, u, h => by
    rw [Lib.decDigits]
    split
    · simp
    · have := dec_len m (u / 10) (by rw [Nat.pow_succ] at h; omega)
      rw [List.length_append, List.length_singleton]
      omega
theorem itoa_len {n : Int} (h0 : -9223372036854775808 ≤ n) (h1 : n ≤ 9223372036854775807) : (Lib.itoa n).length ≤ 20 := by
  unfold Lib.itoa
  split
  · have := dec_len 18 n.natAbs (by omega)
    rw [List.length_cons]; omega
  · have := dec_len 18 n.toNat (by omega)
    omega
def Sps (l : List Tz) (k : Nat) (lg : Bool) (acc : List UInt8) : Prop := (lg = false ∧ spF false (l.take k) = acc) ∨ (lg = true ∧ 16384 < acc.length ∧ 16384 < (spF false (l.take k)).length)
def SpellPost (w : World) (l : List Tz) (e : Ending) (w' : World) : Prop := e = .returned (.tuple #[.string ⟨(spellL l).1.toArray⟩, .int .i64 ((spellL l).2 : Nat)]) ∧ Below w.heap.size w w'
set_option maxRecDepth 100000 in
set_option maxHeartbeats 16000000 in
theorem spell_any (A : Option Addr) (c : Nat) (l : List Tz) (w : World) (hrd : RdZ w A l) (hlen : l.length ≤ 1000000) (hok : ∀ x ∈ l, TzOk x) (htab : Lib.TabIs Tryd.prog w "internal/strconv.uint64pow10" .u64 Lib.pow10Tab) :
    Calls Tryd.prog 21 #[.slice A l.length c] w (SpellPost w l) := by
  obtain ⟨n, hn⟩ : ∃ n, n = l.length := ⟨_, rfl⟩
  have HH := Lib.hid (And.intro hrd (And.intro hn hok))
  have HTB := Lib.hid htab
  rw [← hn] at hlen ⊢
  clear hrd hn hok htab
  obtain ⟨b, hb⟩ : ∃ b, b = w.heap.size := ⟨_, rfl⟩
  have HG := Lib.hid hb
  have H1 : Hid (Bl w.heap.size b (Lib.byteCells []) (w.alloc (.cells #[.pointer none, .slice none 0 0] 75)) ∧ Below w.heap.size w (w.alloc (.cells #[.pointer none, .slice none 0 0] 75))) := Lib.hid ⟨.inl ⟨by omega, .slice none 0 0, by rw [hb]; exact heap_alloc_new w _, World.ownsRow_nil _ _ _ _, by simp [Value.ownBlock]⟩, (Below.refl _ _).alloc (Nat.le_refl _) _⟩
  have HHD := Lib.hid hb
  go_enter Tryd.func21, Tryd.ntmps21
  go_upto_region 2 with fail
  rw [← hb]
  clear hb
  generalize w.alloc (.cells #[.pointer none, .slice none 0 0] 75) = w1 at *
  go_wp2_with fail
  go_loopw [10, 5] (fun s10 s5 wr => ∃ (k : Nat) (lg : Bool) (acc : List UInt8), s10 = .int .i64 (k : Nat) ∧ s5 = .bool lg ∧ k ≤ n ∧ (l.take k).all rightB = true ∧ Sps l k lg acc ∧ acc.length ≤ 40000 ∧ Bl w.heap.size b (Lib.byteCells acc) wr ∧ Below w.heap.size w wr) (fun s10 _ _ => n - (intOf s10).toNat)
  case atStart => exact ⟨0, false, [], rfl, rfl, by omega, rfl, .inl ⟨rfl, rfl⟩, by simp, H1.out⟩
  case round =>
    clear H1
    obtain ⟨k, lg, acc, rfl, rfl, hk, hall, hsp, hal, hbl, hbw⟩ := hrel
    have HALL := Lib.hid hall
    have HSS := Lib.hid hsp
    have HAL0 := Lib.hid hal
    have HBL := Lib.hid (And.intro hbl hbw)
    clear hall hsp hal hbl hbw
    by_cases hlt : k < n
    · have di : decide ((k : Int) < (n : Int)) = true := decide_eq_true (by omega)
      obtain ⟨x0, hx⟩ : ∃ x, l[k]? = some x := ⟨_, List.getElem?_eq_getElem (by have := HH.out.2.1; omega)⟩
      obtain ⟨bb, off, hA, _, hcell⟩ := toks_at (HH.out.1.below HBL.out.2) hx
      subst hA
      have HOK : Hid (TzOk x0) := Lib.hid (HH.out.2.2 _ (List.mem_of_getElem? hx))
      have HTK : Hid (l.take (k + 1) = l.take k ++ [x0]) := Lib.hid (by rw [List.take_add_one, hx]; rfl)
      have HTE : Hid ((l.take k).isEmpty = decide (k = 0)) := Lib.hid (by
        have : (l.take k).length = k := by rw [List.length_take]; have := HH.out.2.1; omega
        cases hq : l.take k with
        | nil => rw [hq] at this; simp at this; simp [← this]
        | cons y r => rw [hq] at this; simp at this; simp; omega)
      have HRG : Hid (wr.rangeAt bb (off + k * 4) (zcell x0)) := Lib.hid (fun jj u hu => hcell jj u hu)
      clear hx hcell
      obtain ⟨x, hxe⟩ : ∃ x, x = x0 := ⟨_, rfl⟩
      obtain ⟨kd, st, iv, pl⟩ := x
      have HX0 : Hid (x0 = ⟨kd, st, iv, pl⟩) := Lib.hid hxe.symm
      rw [← hxe] at HRG
      clear hxe
      dsimp only [zcell] at HRG
      have HB0 : Hid (Blk (wr.alloc (.cells #[.int .u8 0, .string ⟨#[]⟩, .int .i64 0, .int .i64 0] 35)) wr.heap.size 35 #[.int .u8 0, .string ⟨#[]⟩, .int .i64 0, .int .i64 0]) := Lib.hid (Blk.new wr _ _)
      have HL4 : Hid (Below wr.heap.size wr (wr.alloc (.cells #[.int .u8 (kd : Nat), .string st, .int .i64 iv, .int .i64 pl] 35)) ∧ Blk (wr.alloc (.cells #[.int .u8 (kd : Nat), .string st, .int .i64 iv, .int .i64 pl] 35)) wr.heap.size 35 #[.int .u8 (kd : Nat), .string st, .int .i64 iv, .int .i64 pl]) := Lib.hid ⟨(Below.refl _ _).alloc (Nat.le_refl _) _, Blk.new _ _ _⟩
      have n0 : (0 : Int) ≤ (k : Int) := by omega
      have n1 : (k : Int) < (n : Int) := by omega
      go_upto_region 6 with (first | (refine wpList_load_mid rfl 35 (.tmp 13) rfl bb (off + k * 4) rfl [.int .u8 (kd : Nat), .string st, .int .i64 iv, .int .i64 pl] (.struct _) HRG.out Tryd.underlying35 rfl (by kernel_rfl) ?_) | (refine wpList_store_row rfl 35 (.tmp 7) (.tmp 14) rfl wr.heap.size #[.int .u8 (kd : Nat), .string st, .int .i64 iv, .int .i64 pl] rfl rfl 35 #[.int .u8 0, .string ⟨#[]⟩, .int .i64 0, .int .i64 0] HB0.out (by kernel_rfl) rfl (by kernel_rfl) ?_; rw [World.setRow_alloc_new]) | fail)
      obtain ⟨b7, hb7⟩ : ∃ b, b = wr.heap.size := ⟨_, rfl⟩
      have HB5 : Hid (Bl w.heap.size b (Lib.byteCells acc) (wr.alloc (.cells #[.int .u8 (kd : Nat), .string st, .int .i64 iv, .int .i64 pl] 35)) ∧ Below w.heap.size w (wr.alloc (.cells #[.int .u8 (kd : Nat), .string st, .int .i64 iv, .int .i64 pl] 35)) ∧ Blk (wr.alloc (.cells #[.int .u8 (kd : Nat), .string st, .int .i64 iv, .int .i64 pl] 35)) b7 35 #[.int .u8 (kd : Nat), .string st, .int .i64 iv, .int .i64 pl]) := Lib.hid ⟨bl_below HBL.out.1 HL4.out.1, HBL.out.2.trans (HL4.out.1.mono HBL.out.2.size), by rw [hb7]; exact HL4.out.2⟩
      rw [← hb7]
      clear HB0 HL4 HRG HBL hb7
      generalize wr.alloc (.cells #[.int .u8 (kd : Nat), .string st, .int .i64 iv, .int .i64 pl] 35) = w5 at *
      have HRT : Hid (Calls Tryd.prog 44 #[.agg #[.int .u8 (kd : Nat), .string st, .int .i64 iv, .int .i64 pl]] w5 fun e w' => e = .returned (.bool (rightB x0)) ∧ Below w5.heap.size w5 w') := Lib.hid (by
        have := right_any x0 w5 HOK.out
        rw [HX0.out] at this ⊢
        exact this)
      obtain ⟨R, hR⟩ : ∃ R, R = rightB x0 := ⟨_, rfl⟩
      have HRR := Lib.hid hR
      rw [← hR] at HRT
      clear hR
      go_wp2_with (first | (refine wpList_load_row rfl 35 (.tmp 7) rfl b7 rfl 35 #[.int .u8 (kd : Nat), .string st, .int .i64 iv, .int .i64 pl] (0, 0) _ HB5.out.2.2 Tryd.underlying35 rfl (by kernel_rfl) ?_) | fail)
      refine HRT.out.mono ?_
      rintro e w6 ⟨rfl, hb6⟩
      have HB6 : Hid (Bl w.heap.size b (Lib.byteCells acc) w6 ∧ Below w.heap.size w w6 ∧ Blk w6 b7 35 #[.int .u8 (kd : Nat), .string st, .int .i64 iv, .int .i64 pl]) := Lib.hid ⟨bl_below HB5.out.1 hb6, HB5.out.2.1.trans (hb6.mono HB5.out.2.1.size), HB5.out.2.2.below hb6 HB5.out.2.2.lt⟩
      clear hb6 HRT HB5
      cases R with
      | false =>
        have HF : Hid (spellL l = ([], 3)) := Lib.hid (by
          unfold spellL
          have : l.all rightB = false := by
            rw [List.all_eq_false]
            exact ⟨x0, List.mem_of_mem_take (i := k + 1) (by rw [HTK.out]; simp), by rw [← HRR.out]; decide⟩
          rw [this]; rfl)
        go_wp2_with fail
        go_ret2
        exact ⟨by rw [HF.out]; rfl, HB6.out.2.1⟩
      | true =>
        have HRX : Hid (rightB x0 = true) := Lib.hid HRR.out.symm
        cases lg with
        | true =>
          have HS2 : Hid (16384 < acc.length ∧ 16384 < (spF false (l.take k)).length) := Lib.hid (HSS.out.elim (fun h => by cases h.1) (fun h => h.2))
          go_wp2_with fail
          go_roundw
          case rel => exact ⟨k + 1, true, acc, by go_num, rfl, by omega, by rw [HTK.out, List.all_append, HALL.out]; simp [HRX.out], .inr ⟨rfl, HS2.out.1, by rw [HTK.out, spF_append, List.length_append]; have := HS2.out.2; omega⟩, HAL0.out, HB6.out.1, HB6.out.2.1⟩
          case measure => simp [intOf]; omega
        | false =>
          have HACC : Hid (spF false (l.take k) = acc) := Lib.hid (HSS.out.elim (fun h => h.2) (fun h => by cases h.1))
          obtain ⟨m, hm⟩ : ∃ m, m = acc.length := ⟨_, rfl⟩
          have HM := Lib.hid hm
          have HLE : Hid (Calls Tryd.prog 45 #[.pointer (some ⟨b, 0, none⟩)] w6 fun e w' => e = .returned (.int .i64 (m : Nat)) ∧ w' = w6) := Lib.hid (by
            have := Tryd.Builder_Len w.heap.size b (Lib.byteCells acc) w6 HB6.out.1
            rw [Lib.byteCells_length, ← hm] at this
            exact this)
          clear hm
          go_wp2_with fail
          refine HLE.out.mono ?_
          rintro e w7 ⟨rfl, hw7⟩
          subst hw7
          by_cases hbig : 16384 < m
          · have db : decide ((m : Int) > 16384) = true := decide_eq_true (by omega)
            have db' : decide (16384 < m) = true := decide_eq_true hbig
            go_wp2_with fail
            go_roundw
            case rel => exact ⟨k + 1, true, acc, by go_num, rfl, by omega, by rw [HTK.out, List.all_append, HALL.out]; simp [HRX.out], .inr ⟨rfl, by rw [← HM.out]; exact hbig, by rw [HTK.out, spF_append, List.length_append, HACC.out, ← HM.out]; omega⟩, HAL0.out, HB6.out.1, HB6.out.2.1⟩
            case measure => simp [intOf]; omega
          · have db : decide ((m : Int) > 16384) = false := decide_eq_false (by omega)
            have db' : decide (16384 < m) = false := decide_eq_false hbig
            have HAL1 : Hid (acc.length ≤ 16384) := Lib.hid (by rw [← HM.out]; omega)
            by_cases hk0 : k = 0
            · have dk : decide ((k : Int) > 0) = false := decide_eq_false (by omega)
              have dk' : decide (0 < k) = false := decide_eq_false (by omega)
              obtain ⟨acc2, ha2⟩ : ∃ a, a = acc := ⟨_, rfl⟩
              have HA2 : Hid (acc2 = acc ++ (if false || !(l.take k).isEmpty then [32] else [])) := Lib.hid (by rw [ha2, HTE.out, decide_eq_true hk0]; simp)
              have HAL : Hid (acc2.length ≤ 16385) := Lib.hid (by rw [ha2]; have := HAL1.out; omega)
              have HWX : Hid (Bl w.heap.size b (Lib.byteCells acc2) w7 ∧ Below w.heap.size w w7) := Lib.hid ⟨by rw [ha2]; exact HB6.out.1, HB6.out.2.1⟩
              have HTT : Hid (Blk w7 b7 35 #[.int .u8 (kd : Nat), .string st, .int .i64 iv, .int .i64 pl]) := Lib.hid HB6.out.2.2
              clear ha2 hk0
              go_upto_region 12 with fail
              generalize w7 = W at *
              have l0 : W.cell? ⟨b7, 0, none⟩ = some (.int .u8 (kd : Nat)) := HTT.out.cell 0
              by_cases hk2 : kd = 2
              · have e2 : ((kd : Int) == 2) = true := by simp [hk2]
                have l2 : W.cell? ⟨b7, 2, none⟩ = some (.int .i64 iv) := HTT.out.cell 2
                have HSP : Hid (spellT x0 = Lib.itoa iv) := Lib.hid (by unfold spellT; rw [HX0.out]; dsimp only; rw [if_pos hk2])
                have HIV : Hid (-9223372036854775808 ≤ iv ∧ iv ≤ 9223372036854775807) := Lib.hid (by have h := HOK.out.i; rw [HX0.out] at h; exact h)
                have HTL : Hid ((Lib.itoa iv).length ≤ 20) := Lib.hid (itoa_len HIV.out.1 HIV.out.2)
                have HFM := Lib.hid (fmt_any iv HIV.out.1 HIV.out.2 W (tab_below HTB.out HWX.out.2))
                clear hk2
                go_wp2_with fail
                refine HFM.out.mono ?_
                rintro e W3 ⟨rfl, kk, os, hw3⟩
                have HW3 : Hid (Below W.heap.size W W3) := Lib.hid (by rw [hw3]; exact below_grow _ _ _)
                clear hw3
                have HWX3 : Hid (Bl w.heap.size b (Lib.byteCells acc2) W3 ∧ Below w.heap.size w W3) := Lib.hid ⟨bl_below HWX.out.1 HW3.out, HWX.out.2.trans (HW3.out.mono HWX.out.2.size)⟩
                clear HWX HFM
                have HWX := HWX3
                generalize W3 = W at *
                have HWS := Lib.hid (wstr_any w.heap.size b (Lib.byteCells acc2) ⟨(Lib.itoa iv).toArray⟩ W HWX.out.1 (by rw [Lib.byteCells_length]; have := HTL.out; have := HAL.out; show _ + (Lib.itoa iv).length ≤ _; omega) HWX.out.2.size)
                go_wp2_with fail
                refine HWS.out.mono ?_
                rintro e W9 ⟨rfl, hbd9, hb9, _⟩
                have HE9 : Hid (Bl w.heap.size b (Lib.byteCells (acc2 ++ Lib.itoa iv)) W9 ∧ Below w.heap.size w W9) := Lib.hid ⟨.inr (by have := hbd9; rw [Lib.byteCells, List.map_append]; exact this), HWX.out.2.trans hb9⟩
                clear hbd9 hb9
                go_wp2_with fail
                go_roundw
                case rel => exact ⟨k + 1, false, acc2 ++ Lib.itoa iv, by go_num, rfl, by omega, by rw [HTK.out, List.all_append, HALL.out]; simp [HRX.out], .inl ⟨rfl, by rw [HTK.out, spF_append, HACC.out, HA2.out, HSP.out]; simp [HTE.out]⟩, by rw [List.length_append]; have := HTL.out; have := HAL.out; omega, HE9.out⟩
                case measure => simp [intOf]; omega
              · have e2 : ((kd : Int) == 2) = false := by simp; omega
                by_cases hk3 : kd = 3
                · have e3 : ((kd : Int) == 3) = true := by simp [hk3]
                  have l1 : W.cell? ⟨b7, 1, none⟩ = some (.string st) := HTT.out.cell 1
                  have HSP : Hid (spellT x0 = quoteL st.data.toList) := Lib.hid (by unfold spellT Tz.tx; rw [HX0.out]; dsimp only; rw [if_neg (by omega), if_pos hk3])
                  have HTX : Hid (st.data.toList.length ≤ 4095) := Lib.hid (by
                    have h := HRX.out
                    unfold rightB Tz.tx at h
                    rw [HX0.out] at h
                    dsimp only at h
                    rw [if_neg (by omega), if_neg (by omega), if_pos hk3, Bool.and_eq_true, decide_eq_true_eq] at h
                    exact h.1)
                  have HTL : Hid ((quoteL st.data.toList).length ≤ 16382) := Lib.hid (by have := quote_len st.data.toList; have := HTX.out; omega)
                  have HQU : Hid (Calls Tryd.prog 49 #[.string st] W fun e w' => e = .returned (.string ⟨(quoteL st.data.toList).toArray⟩) ∧ Below W.heap.size W w') := Lib.hid (by
                    have := quoted_any st.data.toList (by have := HTX.out; omega) W
                    simpa using this)
                  clear hk3
                  go_wp2_with fail
                  refine HQU.out.mono ?_
                  rintro e W3 ⟨rfl, hw3⟩
                  have HW3 := Lib.hid hw3
                  clear hw3
                  have HWX3 : Hid (Bl w.heap.size b (Lib.byteCells acc2) W3 ∧ Below w.heap.size w W3) := Lib.hid ⟨bl_below HWX.out.1 HW3.out, HWX.out.2.trans (HW3.out.mono HWX.out.2.size)⟩
                  clear HWX HQU
                  have HWX := HWX3
                  generalize W3 = W at *
                  have HWS := Lib.hid (wstr_any w.heap.size b (Lib.byteCells acc2) ⟨(quoteL st.data.toList).toArray⟩ W HWX.out.1 (by rw [Lib.byteCells_length]; have := HTL.out; have := HAL.out; show _ + (quoteL st.data.toList).length ≤ _; omega) HWX.out.2.size)
                  go_wp2_with fail
                  refine HWS.out.mono ?_
                  rintro e W9 ⟨rfl, hbd9, hb9, _⟩
                  have HE9 : Hid (Bl w.heap.size b (Lib.byteCells (acc2 ++ quoteL st.data.toList)) W9 ∧ Below w.heap.size w W9) := Lib.hid ⟨.inr (by have := hbd9; rw [Lib.byteCells, List.map_append]; exact this), HWX.out.2.trans hb9⟩
                  clear hbd9 hb9
                  go_wp2_with fail
                  go_roundw
                  case rel => exact ⟨k + 1, false, acc2 ++ quoteL st.data.toList, by go_num, rfl, by omega, by rw [HTK.out, List.all_append, HALL.out]; simp [HRX.out], .inl ⟨rfl, by rw [HTK.out, spF_append, HACC.out, HA2.out, HSP.out]; simp [HTE.out]⟩, by rw [List.length_append]; have := HTL.out; have := HAL.out; omega, HE9.out⟩
                  case measure => simp [intOf]; omega
                · have e3 : ((kd : Int) == 3) = false := by simp; omega
                  have l1 : W.cell? ⟨b7, 1, none⟩ = some (.string st) := HTT.out.cell 1
                  have HSP : Hid (spellT x0 = st.data.toList) := Lib.hid (by unfold spellT Tz.tx; rw [HX0.out]; dsimp only; rw [if_neg hk2, if_neg hk3])
                  have HTL : Hid (st.data.toList.length ≤ 24) := Lib.hid (right_len HRX.out (by rw [HX0.out]; exact hk2) (by rw [HX0.out]; exact hk3) (by rw [HX0.out]; rfl))
                  have HWS := Lib.hid (wstr_any w.heap.size b (Lib.byteCells acc2) st W HWX.out.1 (by rw [Lib.byteCells_length]; have := HTL.out; have := HAL.out; show _ + st.data.size ≤ _; rw [← Array.length_toList]; omega) HWX.out.2.size)
                  go_wp2_with fail
                  refine HWS.out.mono ?_
                  rintro e W9 ⟨rfl, hbd9, hb9, _⟩
                  have HE9 : Hid (Bl w.heap.size b (Lib.byteCells (acc2 ++ st.data.toList)) W9 ∧ Below w.heap.size w W9) := Lib.hid ⟨.inr (by have := hbd9; rw [Lib.byteCells, List.map_append]; exact this), HWX.out.2.trans hb9⟩
                  clear hbd9 hb9
                  go_wp2_with fail
                  go_roundw
                  case rel => exact ⟨k + 1, false, acc2 ++ st.data.toList, by go_num, rfl, by omega, by rw [HTK.out, List.all_append, HALL.out]; simp [HRX.out], .inl ⟨rfl, by rw [HTK.out, spF_append, HACC.out, HA2.out, HSP.out]; simp [HTE.out]⟩, by rw [List.length_append]; have := HTL.out; have := HAL.out; omega, HE9.out⟩
                  case measure => simp [intOf]; omega
            · have dk : decide ((k : Int) > 0) = true := decide_eq_true (by omega)
              have dk' : decide (0 < k) = true := decide_eq_true (by omega)
              have HWB := Lib.hid (wbyte_any w.heap.size b (Lib.byteCells acc) 32 w7 HB6.out.1 (by rw [Lib.byteCells_length]; have := HAL1.out; omega) HB6.out.2.1.size)
              go_wp2_with fail
              refine HWB.out.mono ?_
              rintro e W ⟨rfl, hbd8, hb8, hkp8⟩
              obtain ⟨acc2, ha2⟩ : ∃ a, a = acc ++ [32] := ⟨_, rfl⟩
              have HA2 : Hid (acc2 = acc ++ (if false || !(l.take k).isEmpty then [32] else [])) := Lib.hid (by rw [ha2, HTE.out, decide_eq_false hk0]; simp)
              have HAL : Hid (acc2.length ≤ 16385) := Lib.hid (by rw [ha2, List.length_append]; have := HAL1.out; simp; omega)
              have HWX : Hid (Bl w.heap.size b (Lib.byteCells acc2) W ∧ Below w.heap.size w W) := Lib.hid ⟨.inr (by rw [ha2, Lib.byteCells, List.map_append]; exact hbd8), HB6.out.2.1.trans hb8⟩
              have HTT : Hid (Blk W b7 35 #[.int .u8 (kd : Nat), .string st, .int .i64 iv, .int .i64 pl]) := Lib.hid (hkp8 _ _ _ HB6.out.2.2 (by decide) (by decide))
              clear ha2 hk0 hbd8 hb8 hkp8 HWB
              have l0 : W.cell? ⟨b7, 0, none⟩ = some (.int .u8 (kd : Nat)) := HTT.out.cell 0
              by_cases hk2 : kd = 2
              · have e2 : ((kd : Int) == 2) = true := by simp [hk2]
                have l2 : W.cell? ⟨b7, 2, none⟩ = some (.int .i64 iv) := HTT.out.cell 2
                have HSP : Hid (spellT x0 = Lib.itoa iv) := Lib.hid (by unfold spellT; rw [HX0.out]; dsimp only; rw [if_pos hk2])
                have HIV : Hid (-9223372036854775808 ≤ iv ∧ iv ≤ 9223372036854775807) := Lib.hid (by have h := HOK.out.i; rw [HX0.out] at h; exact h)
                have HTL : Hid ((Lib.itoa iv).length ≤ 20) := Lib.hid (itoa_len HIV.out.1 HIV.out.2)
                have HFM := Lib.hid (fmt_any iv HIV.out.1 HIV.out.2 W (tab_below HTB.out HWX.out.2))
                clear hk2
                go_wp2_with fail
                refine HFM.out.mono ?_
                rintro e W3 ⟨rfl, kk, os, hw3⟩
                have HW3 : Hid (Below W.heap.size W W3) := Lib.hid (by rw [hw3]; exact below_grow _ _ _)
                clear hw3
                have HWX3 : Hid (Bl w.heap.size b (Lib.byteCells acc2) W3 ∧ Below w.heap.size w W3) := Lib.hid ⟨bl_below HWX.out.1 HW3.out, HWX.out.2.trans (HW3.out.mono HWX.out.2.size)⟩
                clear HWX HFM
                have HWX := HWX3
                generalize W3 = W at *
                have HWS := Lib.hid (wstr_any w.heap.size b (Lib.byteCells acc2) ⟨(Lib.itoa iv).toArray⟩ W HWX.out.1 (by rw [Lib.byteCells_length]; have := HTL.out; have := HAL.out; show _ + (Lib.itoa iv).length ≤ _; omega) HWX.out.2.size)
                go_wp2_with fail
                refine HWS.out.mono ?_
                rintro e W9 ⟨rfl, hbd9, hb9, _⟩
                have HE9 : Hid (Bl w.heap.size b (Lib.byteCells (acc2 ++ Lib.itoa iv)) W9 ∧ Below w.heap.size w W9) := Lib.hid ⟨.inr (by have := hbd9; rw [Lib.byteCells, List.map_append]; exact this), HWX.out.2.trans hb9⟩
                clear hbd9 hb9
                go_wp2_with fail
                go_roundw
                case rel => exact ⟨k + 1, false, acc2 ++ Lib.itoa iv, by go_num, rfl, by omega, by rw [HTK.out, List.all_append, HALL.out]; simp [HRX.out], .inl ⟨rfl, by rw [HTK.out, spF_append, HACC.out, HA2.out, HSP.out]; simp [HTE.out]⟩, by rw [List.length_append]; have := HTL.out; have := HAL.out; omega, HE9.out⟩
                case measure => simp [intOf]; omega
              · have e2 : ((kd : Int) == 2) = false := by simp; omega
                by_cases hk3 : kd = 3
                · have e3 : ((kd : Int) == 3) = true := by simp [hk3]
                  have l1 : W.cell? ⟨b7, 1, none⟩ = some (.string st) := HTT.out.cell 1
                  have HSP : Hid (spellT x0 = quoteL st.data.toList) := Lib.hid (by unfold spellT Tz.tx; rw [HX0.out]; dsimp only; rw [if_neg (by omega), if_pos hk3])
                  have HTX : Hid (st.data.toList.length ≤ 4095) := Lib.hid (by
                    have h := HRX.out
                    unfold rightB Tz.tx at h
                    rw [HX0.out] at h
                    dsimp only at h
                    rw [if_neg (by omega), if_neg (by omega), if_pos hk3, Bool.and_eq_true, decide_eq_true_eq] at h
                    exact h.1)
                  have HTL : Hid ((quoteL st.data.toList).length ≤ 16382) := Lib.hid (by have := quote_len st.data.toList; have := HTX.out; omega)
                  have HQU : Hid (Calls Tryd.prog 49 #[.string st] W fun e w' => e = .returned (.string ⟨(quoteL st.data.toList).toArray⟩) ∧ Below W.heap.size W w') := Lib.hid (by
                    have := quoted_any st.data.toList (by have := HTX.out; omega) W
                    simpa using this)
                  clear hk3
                  go_wp2_with fail
                  refine HQU.out.mono ?_
                  rintro e W3 ⟨rfl, hw3⟩
                  have HW3 := Lib.hid hw3
                  clear hw3
                  have HWX3 : Hid (Bl w.heap.size b (Lib.byteCells acc2) W3 ∧ Below w.heap.size w W3) := Lib.hid ⟨bl_below HWX.out.1 HW3.out, HWX.out.2.trans (HW3.out.mono HWX.out.2.size)⟩
                  clear HWX HQU
                  have HWX := HWX3
                  generalize W3 = W at *
                  have HWS := Lib.hid (wstr_any w.heap.size b (Lib.byteCells acc2) ⟨(quoteL st.data.toList).toArray⟩ W HWX.out.1 (by rw [Lib.byteCells_length]; have := HTL.out; have := HAL.out; show _ + (quoteL st.data.toList).length ≤ _; omega) HWX.out.2.size)
                  go_wp2_with fail
                  refine HWS.out.mono ?_
                  rintro e W9 ⟨rfl, hbd9, hb9, _⟩
                  have HE9 : Hid (Bl w.heap.size b (Lib.byteCells (acc2 ++ quoteL st.data.toList)) W9 ∧ Below w.heap.size w W9) := Lib.hid ⟨.inr (by have := hbd9; rw [Lib.byteCells, List.map_append]; exact this), HWX.out.2.trans hb9⟩
                  clear hbd9 hb9
                  go_wp2_with fail
                  go_roundw
                  case rel => exact ⟨k + 1, false, acc2 ++ quoteL st.data.toList, by go_num, rfl, by omega, by rw [HTK.out, List.all_append, HALL.out]; simp [HRX.out], .inl ⟨rfl, by rw [HTK.out, spF_append, HACC.out, HA2.out, HSP.out]; simp [HTE.out]⟩, by rw [List.length_append]; have := HTL.out; have := HAL.out; omega, HE9.out⟩
                  case measure => simp [intOf]; omega
                · have e3 : ((kd : Int) == 3) = false := by simp; omega
                  have l1 : W.cell? ⟨b7, 1, none⟩ = some (.string st) := HTT.out.cell 1
                  have HSP : Hid (spellT x0 = st.data.toList) := Lib.hid (by unfold spellT Tz.tx; rw [HX0.out]; dsimp only; rw [if_neg hk2, if_neg hk3])
                  have HTL : Hid (st.data.toList.length ≤ 24) := Lib.hid (right_len HRX.out (by rw [HX0.out]; exact hk2) (by rw [HX0.out]; exact hk3) (by rw [HX0.out]; rfl))
                  have HWS := Lib.hid (wstr_any w.heap.size b (Lib.byteCells acc2) st W HWX.out.1 (by rw [Lib.byteCells_length]; have := HTL.out; have := HAL.out; show _ + st.data.size ≤ _; rw [← Array.length_toList]; omega) HWX.out.2.size)
                  go_wp2_with fail
                  refine HWS.out.mono ?_
                  rintro e W9 ⟨rfl, hbd9, hb9, _⟩
                  have HE9 : Hid (Bl w.heap.size b (Lib.byteCells (acc2 ++ st.data.toList)) W9 ∧ Below w.heap.size w W9) := Lib.hid ⟨.inr (by have := hbd9; rw [Lib.byteCells, List.map_append]; exact this), HWX.out.2.trans hb9⟩
                  clear hbd9 hb9
                  go_wp2_with fail
                  go_roundw
                  case rel => exact ⟨k + 1, false, acc2 ++ st.data.toList, by go_num, rfl, by omega, by rw [HTK.out, List.all_append, HALL.out]; simp [HRX.out], .inl ⟨rfl, by rw [HTK.out, spF_append, HACC.out, HA2.out, HSP.out]; simp [HTE.out]⟩, by rw [List.length_append]; have := HTL.out; have := HAL.out; omega, HE9.out⟩
                  case measure => simp [intOf]; omega
    · have di : decide ((k : Int) < (n : Int)) = false := decide_eq_false (by omega)
      have hkn : k = n := by omega
      have HTF : Hid (l.take k = l) := Lib.hid (List.take_of_length_le (by rw [← HH.out.2.1]; omega))
      have HALR : Hid (l.all rightB = true) := Lib.hid (by rw [← HTF.out]; exact HALL.out)
      obtain ⟨m, hm⟩ : ∃ m, m = acc.length := ⟨_, rfl⟩
      have HM := Lib.hid hm
      have HLE : Hid (Calls Tryd.prog 45 #[.pointer (some ⟨b, 0, none⟩)] wr fun e w' => e = .returned (.int .i64 (m : Nat)) ∧ w' = wr) := Lib.hid (by
        have := Tryd.Builder_Len w.heap.size b (Lib.byteCells acc) wr HBL.out.1
        rw [Lib.byteCells_length, ← hm] at this
        exact this)
      clear hm hkn
      go_wp2_with fail
      refine HLE.out.mono ?_
      rintro e w7 ⟨rfl, hw7⟩
      subst hw7
      by_cases hbig : 16384 < m
      · have db : decide ((m : Int) > 16384) = true := decide_eq_true (by omega)
        have db' : decide (16384 < m) = true := decide_eq_true hbig
        have HF : Hid (spellL l = ([], 2)) := Lib.hid (by
          unfold spellL
          rw [HALR.out, if_pos rfl, if_pos]
          have h := HSS.out
          unfold Sps at h
          rw [HTF.out] at h
          rcases h with ⟨_, h⟩ | ⟨_, _, h⟩
          · rw [h, ← HM.out]; exact hbig
          · exact h)
        go_wp2_with fail
        go_ret2
        exact ⟨by rw [HF.out]; rfl, HBL.out.2⟩
      · have db : decide ((m : Int) > 16384) = false := decide_eq_false (by omega)
        have db' : decide (16384 < m) = false := decide_eq_false hbig
        have HF : Hid (spellL l = (acc, 0)) := Lib.hid (by
          have h := HSS.out
          unfold Sps at h
          rw [HTF.out] at h
          rcases h with ⟨_, h⟩ | ⟨_, h, _⟩
          · unfold spellL
            rw [HALR.out, if_pos rfl, h, if_neg (by rw [← HM.out]; exact hbig)]
          · rw [← HM.out] at h; exact absurd h hbig)
        have HST := Lib.hid (Tryd.Builder_String_any w.heap.size b acc w7 HBL.out.1 HBL.out.2.size)
        go_wp2_with fail
        refine HST.out.mono ?_
        rintro e w8 ⟨rfl, hb8⟩
        have HB8 := Lib.hid (HBL.out.2.trans hb8)
        clear hb8
        go_wp2_with fail
        go_ret2
        exact ⟨by rw [HF.out]; rfl, HB8.out⟩
end Go.Proofs.YtbcadlocldplfaaDoor.T7
