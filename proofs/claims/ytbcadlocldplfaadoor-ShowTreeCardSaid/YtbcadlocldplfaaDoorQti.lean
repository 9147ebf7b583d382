/- Tokens that came in: any at all; how they lie in memory. And what follows from it. -/
import Derived.Deep.Slices
import Derived.Deep.Fields
import Derived.ChangeSame
import Derived.ProofKit
import Derived.OpenShut
import Derived.Test.YtbcadlocldplfaaDoorChecked
import Derived.Shelf.Strconv.Itoa3
import Derived.Outline
import Derived.Deep.DeepCutAuto
import Derived.Deep.MidRow
import Derived.Shelf.Strings.Builder1
import Derived.Shelf.Small.Strs
import Derived.Shelf.Strconv.Itoa0
import Derived.Shelf.Strconv.Itoa1
import Derived.Shelf.LaysM
import Derived.Shelf.Strconv.Itoa2
import Derived.Shelf.Strings.Search1
import Derived.Test.YtbcadlocldplfaaDoorProg
import Derived.Lib.AppendStr
import Derived.Lib.UnsafeStr
import Derived.WalkKit
import Derived.Laws.Externs
import Derived.Test.YtbcadlocldplfaaDoorQta
import Derived.Test.YtbcadlocldplfaaDoorQtc
import Derived.Test.YtbcadlocldplfaaDoorQt0
set_option maxHeartbeats 16000000
set_option linter.unusedSimpArgs false
set_option linter.unusedVariables false
namespace Go.Proofs.YtbcadlocldplfaaDoor.T7
open Go.Proofs.Tryd
open Go.ChangeShapes Go.WideShapes Go.ChangeAt Go.RowKit Go.Deep
structure Tz where
 kind : Nat
 text : ByteArray
 int : Int
 at_ : Int
def zcell (x : Tz) : List Value := [.int .u8 (x.kind : Nat), .string x.text, .int .i64 x.int, .int .i64 x.at_]
theorem zcell_len (x : Tz) : (zcell x).length = 4 := rfl
theorem zcell_one (x : Tz) : ∀ u ∈ zcell x, u.oneCell' = true := by
 intro u hu
 simp only [zcell, List.mem_cons, List.not_mem_nil, or_false] at hu
 rcases hu with rfl | rfl | rfl | rfl <;> rfl
structure TzOk (x : Tz) : Prop where
 k : x.kind < 256
 t : x.text.size <= 9223372036854775807
 i : -9223372036854775808 <= x.int ∧ x.int <= 9223372036854775807
abbrev RdZ := RdL zcell 4
theorem toks_at {w : World} {A : Option Addr} {l : List Tz} (h : RdZ w A l) {k : Nat} {x : Tz} (hx : l[k]? = some x) :
 ∃ b off, A = some ⟨b, off, none⟩ ∧ b < w.heap.size ∧ ∀ j v, (zcell x)[j]? = some v -> w.cell? ⟨b, off + k * 4 + j, none⟩ = some v := by
 rcases h with h | ⟨b, off, hA, hb, hat⟩
 . rw [h] at hx; simp at hx
 . exact ⟨b, off, hA, hb, fun j v hj => hat k x hx j v hj⟩
theorem bytes_of_list {a b : ByteArray} (h : a.toList = b.toList) : a = b := by
 rw [ByteArray.toList_eq, ByteArray.toList_eq] at h
 obtain ⟨⟨x⟩⟩ := a
 obtain ⟨⟨y⟩⟩ := b
 have : x = y := h
 rw [this]
end Go.Proofs.YtbcadlocldplfaaDoor.T7
namespace Go.Proofs.YtbcadlocldplfaaDoor.T7
open Go.Proofs.Tryd
def sgn17 : List (List UInt8) := [[40], [41], [123], [125], [91], [93], [44], [61], [60], [43], [45], [42], [47], [37], [61, 61], [33, 61], [60, 61]]
def Tz.tx (x : Tz) : List UInt8 := x.text.data.toList
def wordOk : List UInt8 -> Bool
 | [] => false
 | c :: r => decide ((c :: r).length <= 24) && lowB c && (c :: r).all innB
def rightB (x : Tz) : Bool :=
 if x.kind = 1 then wordOk x.tx && decide (x.int = 0) else if x.kind = 2 then decide (x.tx = []) && decide (0 <= x.int) else if x.kind = 3 then decide (x.tx.length <= 4095) && decide (x.int = 0)
 else if x.kind = 4 then decide (x.tx ∈ sgn17) && decide (x.int = 0) else false
def hx (n : Nat) : UInt8 := UInt8.ofNat (if n < 10 then 48 + n else 87 + n)
def q1 (c : UInt8) : List UInt8 :=
 if c = 34 ∨ c = 92 then [92, c] else if c = 10 then [92, 110] else if c.toNat < 32 ∨ 126 < c.toNat then [92, 120, hx (c.toNat / 16), hx (c.toNat % 16)] else [c]
def quoteL (s : List UInt8) : List UInt8 := 34 :: (s.flatMap q1 ++ [34])
def spellT (x : Tz) : List UInt8 := if x.kind = 2 then Lib.itoa x.int else if x.kind = 3 then quoteL x.tx else x.tx
def spF : Bool -> List Tz -> List UInt8
 | _, [] => []
 | f, x :: r => (if f then [32] else []) ++ spellT x ++ spF true r
theorem spF_append (f : Bool) (l : List Tz) (x : Tz) : spF f (l ++ [x]) = spF f l ++ ((if f || !l.isEmpty then [32] else []) ++ spellT x) := by
 induction l generalizing f with
 | nil => simp [spF]
 | cons y l ih =>
  rw [List.cons_append, spF, ih true, spF]
  simp
theorem q1_len (c : UInt8) : (q1 c).length <= 4 := by
 unfold q1
 split
 . exact (show 2 <= 4 by omega)
 . split
   . exact (show 2 <= 4 by omega)
   . split
     . exact (show 4 <= 4 by omega)
     . exact (show 1 <= 4 by omega)
theorem quote_len (s : List UInt8) : (quoteL s).length <= 4 * s.length + 2 := by
 have h : ∀ s : List UInt8, (s.flatMap q1).length <= 4 * s.length := fun s => by
  induction s with
  | nil => simp
  | cons c s ih => have := q1_len c; rw [List.flatMap_cons, lna, lnc]; omega
 have := h s
 unfold quoteL
 rw [lnc, lna, List.length_singleton]
 omega
def spellL (l : List Tz) : List UInt8 × Nat := if l.all rightB then (if 16384 < (spF false l).length then ([], 2) else (spF false l, 0)) else ([], 3)
end Go.Proofs.YtbcadlocldplfaaDoor.T7
namespace Go.Proofs.YtbcadlocldplfaaDoor.T7
open Go.Proofs.Tryd
set_option maxRecDepth 100000
open Go.RowKit
set_option maxRecDepth 100000 in
theorem right_any (x : Tz) (w : World) (hx : TzOk x) : Calls prog 44 #[.agg (zcell x).toArray] w fun e w' => e = .returned (.bool (rightB x)) ∧ Below w.heap.size w w' := by
 obtain ⟨R, hR⟩ := ex (rightB x)
 have HR := zh hR
 rw [<- hR]
 clear hR
 obtain ⟨kd, st, iv, pl⟩ := x
 dsimp only [zcell]
 have hk9 := hx.k
 have ht := hx.t
 dsimp only at hk9 ht
 clear hx
 have H1 : Hid (Below w.heap.size w (w.alloc (.cells #[.int .u8 (kd : Nat), .string st, .int .i64 iv, .int .i64 pl] 35)) ∧ Blk (w.alloc (.cells #[.int .u8 (kd : Nat), .string st, .int .i64 iv, .int .i64 pl] 35)) w.heap.size 35 #[.int .u8 (kd : Nat), .string st, .int .i64 iv, .int .i64 pl]) := zh ⟨(Below.refl _ _).alloc (nlr _) _, Blk.new _ _ _⟩
 go_in
 go_upto_region 1 with fail
 generalize w.alloc (.cells #[.int .u8 (kd : Nat), .string st, .int .i64 iv, .int .i64 pl] 35) = w1 at *
 have c0 : w1.cell? ⟨w.heap.size, 0, none⟩ = some (.int .u8 (kd : Nat)) := H1.out.2.cell 0
 have c3 : w1.cell? ⟨w.heap.size, 3, none⟩ = some (.int .i64 pl) := H1.out.2.cell 3
 have HB0 := zh (Blk.new w1 35 #[.int .u8 0, .string ⟨#[]⟩, .int .i64 0, .int .i64 0])
 have H2 : Hid (Below w1.heap.size w1 (w1.alloc (.cells #[.int .u8 (kd : Nat), .string ⟨#[]⟩, .int .i64 0, .int .i64 pl] 35)) ∧ Blk (w1.alloc (.cells #[.int .u8 (kd : Nat), .string ⟨#[]⟩, .int .i64 0, .int .i64 pl] 35)) w1.heap.size 35 #[.int .u8 (kd : Nat), .string ⟨#[]⟩, .int .i64 0, .int .i64 pl]) := zh ⟨(Below.refl _ _).alloc (nlr _) _, Blk.new _ _ _⟩
 go_upto_region 2 with (first | (refine wpList_store_row rfl 35 (.tmp 3) (.tmp 9) rfl w1.heap.size #[.int .u8 (kd : Nat), .string ⟨#[]⟩, .int .i64 0, .int .i64 pl] rfl rfl 35 #[.int .u8 0, .string ⟨#[]⟩, .int .i64 0, .int .i64 0] HB0.out (by kernel_rfl) rfl (by kernel_rfl) ?_; rw [World.setRow_alloc_new]) | fail)
 have HS1 : Hid (w.heap.size <= w1.heap.size ∧ w.heap.size < w1.heap.size) := zh ⟨H1.out.1.size, H1.out.2.lt⟩
 generalize hb3 : w1.heap.size = b3 at *
 generalize w1.alloc (.cells #[.int .u8 (kd : Nat), .string ⟨#[]⟩, .int .i64 0, .int .i64 pl] 35) = w2 at *
 obtain ⟨b1, hb1⟩ : ∃ b, b = w.heap.size := ⟨_, rfl⟩
 have HW2 : Hid (Below w.heap.size w w2 ∧ Blk w2 b1 35 #[.int .u8 (kd : Nat), .string st, .int .i64 iv, .int .i64 pl] ∧ Blk w2 b3 35 #[.int .u8 (kd : Nat), .string ⟨#[]⟩, .int .i64 0, .int .i64 pl]) := zh ⟨H1.out.1.trans (H2.out.1.mono HS1.out.1), by rw [hb1]; exact H1.out.2.below (by rw [hb3]; exact H2.out.1) H1.out.2.lt, H2.out.2⟩
 have HN : Hid (b3 ≠ b1 ∧ w.heap.size <= b3) := zh ⟨by have := HS1.out.2; omega, HS1.out.1⟩
 have HG := zh hb1
 rw [<- hb1]
 clear hb1 c0 c3 HB0 H1 H2 HS1 hb3
 have k0 : w2.cell? ⟨b1, 0, none⟩ = some (.int .u8 (kd : Nat)) := HW2.out.2.1.cell 0
 by_cases hk1 : kd = 1
 . have hk := hk1
   have m1 : ((kd : Int) == 1) = true := by simp [hk]
   have d1 : w2.cell? ⟨b1, 1, none⟩ = some (.string st) := HW2.out.2.1.cell 1
   have f1 : w2.frozen? ⟨b3, 1, none⟩ = false := HW2.out.2.2.frozen 1
   have g1 : w2.cell? ⟨b3, 1, none⟩ = some (.string ⟨#[]⟩) := HW2.out.2.2.cell 1
   have HW3 : Hid (Below w.heap.size w (w2.setCell ⟨b3, 1, none⟩ (.string st)) ∧ Blk (w2.setCell ⟨b3, 1, none⟩ (.string st)) b1 35 #[.int .u8 (kd : Nat), .string st, .int .i64 iv, .int .i64 pl] ∧ Blk (w2.setCell ⟨b3, 1, none⟩ (.string st)) b3 35 #[.int .u8 (kd : Nat), .string st, .int .i64 0, .int .i64 pl]) := zh ⟨HW2.out.1.setCell (p := ⟨b3, 1, none⟩) HN.out.2 _, Blk.chg HW2.out.2.1 (Chg.setCell (T := fun b => b = b3) (Chg.refl _ _) (p := ⟨b3, 1, none⟩) rfl _) (fun e => HN.out.1 e.symm), by
    have h1 := HW2.out.2.2.set_ 1 (.string st)
    simpa using h1⟩
   go_upto_region 6 with fail
   generalize w2.setCell ⟨b3, 1, none⟩ (.string st) = w3 at *
   clear d1 f1 g1 k0
   have k0 : w3.cell? ⟨b1, 0, none⟩ = some (.int .u8 (kd : Nat)) := HW3.out.2.1.cell 0
   have k1 : w3.cell? ⟨b1, 1, none⟩ = some (.string st) := HW3.out.2.1.cell 1
   have k2 : w3.cell? ⟨b1, 2, none⟩ = some (.int .i64 iv) := HW3.out.2.1.cell 2
   have k3 : w3.cell? ⟨b1, 3, none⟩ = some (.int .i64 pl) := HW3.out.2.1.cell 3
   have l0 : w3.cell? ⟨b3, 0, none⟩ = some (.int .u8 (kd : Nat)) := HW3.out.2.2.cell 0
   have l1 : w3.cell? ⟨b3, 1, none⟩ = some (.string st) := HW3.out.2.2.cell 1
   have l2 : w3.cell? ⟨b3, 2, none⟩ = some (.int .i64 0) := HW3.out.2.2.cell 2
   have l3 : w3.cell? ⟨b3, 3, none⟩ = some (.int .i64 pl) := HW3.out.2.2.cell 3
   obtain ⟨s, hs⟩ := ex st.data.toList
   have HRK : Hid (R = (wordOk s && decide (iv = 0))) := zh (by rw [HR.out]; unfold rightB Tz.tx; dsimp only; rw [hk, hs]; rfl)
   have HST : Hid (st = ⟨s.toArray⟩) := zh (by rw [hs])
   obtain ⟨n, hn⟩ := ex st.size
   have hsz : st.size = n := hn.symm
   have HN2 : Hid (s.length = n) := zh (by rw [hs, hn, Array.length_toList]; rfl)
   have HNE : Hid (n ≠ 0 -> (st.toList == []) = false) := zh (fun h => by
    rw [bfn]
    intro h2
    rw [ByteArray.toList_eq, <- hs] at h2
    have := HN2.out
    rw [h2] at this
    exact h this.symm)
   have HEQ : Hid (n = 0 -> (st.toList == []) = true) := zh (fun h => by
    rw [beq_iff_eq, ByteArray.toList_eq, <- hs]
    exact List.eq_nil_of_length_eq_zero (by have := HN2.out; omega))
   clear hn hs
   rw [hsz] at ht
   by_cases hn0 : n = 0
   . have e0 := HEQ.out hn0
     have HF : Hid (R = false) := zh (by rw [HRK.out, List.eq_nil_of_length_eq_zero (l := s) (by have := HN2.out; omega)]; rfl)
     clear hn0
     go_wp2_with fail
     go_ret
     exact ⟨ret_bool (by rw [HF.out]), HW3.out.1⟩
   have e0 := HNE.out hn0
   have h0s : 0 < s.length := by have := HN2.out; omega
   obtain ⟨c, r, hcr⟩ : ∃ c r, s = c :: r := by
    cases s with
    | nil => simp at h0s
    | cons c r => exact ⟨c, r, rfl⟩
   have HWD : Hid (wordOk s = (decide (s.length <= 24) && lowB c && s.all innB)) := zh (by rw [hcr]; rfl)
   by_cases h24 : 24 < n
   . have dl : decide ((n : Int) > 24) = true := dqt (by omega)
     have dl' : decide (24 < n) = true := dqt h24
     have HF : Hid (R = false) := zh (by rw [HRK.out, HWD.out, dqf (by have := HN2.out; omega)]; rfl)
     clear hcr h0s hn0
     go_wp2_with fail
     go_ret
     exact ⟨ret_bool (by rw [HF.out]), HW3.out.1⟩
   have dl : decide ((n : Int) > 24) = false := dqf (by omega)
   have dl' : decide (24 < n) = false := dqf h24
   have h0 : 0 < st.size := by omega
   have hg0 : st[0] = c := by
    rw [st_get HST.out h0 h0s]
    simp [hcr]
   have HWD2 : Hid (R = (lowB c && s.all innB && decide (iv = 0))) := zh (by rw [HRK.out, HWD.out, dqt (by have := HN2.out; omega), Bool.true_and])
   have n0 : (0 : Int) < (n : Int) := by omega
   clear hcr h0s HWD
   go_wp2_with fail
   refine (letter_any c w3).mono ?_
   rintro e w4 ⟨rfl, hw4⟩
   subst hw4
   cases hlow : lowB c
   . have HF : Hid (R = false) := zh (by rw [HWD2.out, hlow]; rfl)
     clear hlow
     go_wp2_with fail
     go_ret
     exact ⟨ret_bool (by rw [HF.out]), HW3.out.1⟩
   have HF : Hid (R = (s.all innB && decide (iv = 0))) := zh (by rw [HWD2.out, hlow]; rfl)
   clear hlow hg0 h0
   go_wp2_with fail
   go_loopw [36] (fun s36 wr => ∃ k : Nat, s36 = .int .i64 (k : Nat) ∧ k <= n ∧ (s.take k).all innB = true ∧ wr = w4) (fun s36 _ => n - (intOf s36).toNat)
   case atStart => exact ⟨0, rfl, by omega, by simp, rfl⟩
   case round =>
    obtain ⟨k, rfl, hkn, hall, rfl⟩ := hrel
    have HAL := zh hall
    clear hall
    by_cases hlt : k < n
    . have di : decide ((k : Int) < (n : Int)) = true := dqt (by omega)
      have hks : k < s.length := by have := HN2.out; omega
      obtain ⟨ch, hch⟩ : ∃ c, c = s[k] := ⟨_, rfl⟩
      have hkst : k < st.size := by omega
      have hg : st[k] = ch := by rw [hch]; exact st_get HST.out hkst hks
      have HTK : Hid (s.take (k + 1) = s.take k ++ [ch]) := zh (by rw [hch]; exact List.take_succ_eq_append_getElem hks)
      have HIN : Hid (innB ch = false -> R = false) := zh (fun h => by
       rw [HF.out]
       have : s.all innB = false := by
        rw [List.all_eq_false]
        exact ⟨ch, by rw [hch]; exact List.getElem_mem hks, by rw [h]; decide⟩
       rw [this]; rfl)
      clear hch hks
      have k0' : (0 : Int) <= (k : Int) := by omega
      have k1' : (k : Int) < (n : Int) := by omega
      go_wp2_with fail
      refine (inner_any ch wr).mono ?_
      rintro e w5 ⟨rfl, hw5⟩
      subst hw5
      cases hin : innB ch
      . have HF2 : Hid (R = false) := zh (HIN.out hin)
        clear hin
        go_wp2_with fail
        go_ret
        exact ⟨ret_bool (by rw [HF2.out]), HW3.out.1⟩
      . have HA2 : Hid ((s.take (k + 1)).all innB = true) := zh (by rw [HTK.out, List.all_append, HAL.out]; simp [hin])
        clear hin
        go_wp2_with fail
        go_roundw
        case rel => exact ⟨k + 1, by go_num, by omega, HA2.out, by trivial⟩
        case measure => simp [intOf]; omega
    . have di : decide ((k : Int) < (n : Int)) = false := dqf (by omega)
      have HA2 : Hid (R = decide (iv = 0)) := zh (by
       have := HAL.out
       rw [List.take_of_length_le (by have := HN2.out; omega)] at this
       rw [HF.out, this]; rfl)
      by_cases hiv : iv = 0
      . have e1 : ((0 : Int) == iv) = true := by simp [hiv]
        go_wp2_with (first | (refine wpList_load_row rfl 35 (.tmp 3) rfl b3 rfl 35 #[.int .u8 (kd : Nat), .string st, .int .i64 0, .int .i64 pl] (0, 0) _ HW3.out.2.2 underlying35 rfl (by kernel_rfl) ?_) | (refine wpList_load_row rfl 35 (.tmp 1) rfl b1 rfl 35 #[.int .u8 (kd : Nat), .string st, .int .i64 iv, .int .i64 pl] (0, 0) _ HW3.out.2.1 underlying35 rfl (by kernel_rfl) ?_) | fail)
        go_ret
        exact ⟨ret_bool (by rw [HA2.out]; simp [hiv]), HW3.out.1⟩
      . have e1 : ((0 : Int) == iv) = false := by simp; omega
        go_wp2_with (first | (refine wpList_load_row rfl 35 (.tmp 3) rfl b3 rfl 35 #[.int .u8 (kd : Nat), .string st, .int .i64 0, .int .i64 pl] (0, 0) _ HW3.out.2.2 underlying35 rfl (by kernel_rfl) ?_) | (refine wpList_load_row rfl 35 (.tmp 1) rfl b1 rfl 35 #[.int .u8 (kd : Nat), .string st, .int .i64 iv, .int .i64 pl] (0, 0) _ HW3.out.2.1 underlying35 rfl (by kernel_rfl) ?_) | fail)
        go_ret
        exact ⟨ret_bool (by rw [HA2.out]; simp [hiv]), HW3.out.1⟩
 by_cases hk2 : kd = 2
 . have hk := hk2
   have m1 : ((kd : Int) == 1) = false := by simp; omega
   have m2 : ((kd : Int) == 2) = true := by simp [hk]
   have d1 : w2.cell? ⟨b1, 2, none⟩ = some (.int .i64 iv) := HW2.out.2.1.cell 2
   have f1 : w2.frozen? ⟨b3, 2, none⟩ = false := HW2.out.2.2.frozen 2
   have g1 : w2.cell? ⟨b3, 2, none⟩ = some (.int .i64 0) := HW2.out.2.2.cell 2
   have HW3 : Hid (Below w.heap.size w (w2.setCell ⟨b3, 2, none⟩ (.int .i64 iv)) ∧ Blk (w2.setCell ⟨b3, 2, none⟩ (.int .i64 iv)) b1 35 #[.int .u8 (kd : Nat), .string st, .int .i64 iv, .int .i64 pl] ∧ Blk (w2.setCell ⟨b3, 2, none⟩ (.int .i64 iv)) b3 35 #[.int .u8 (kd : Nat), .string ⟨#[]⟩, .int .i64 iv, .int .i64 pl]) := zh ⟨HW2.out.1.setCell (p := ⟨b3, 2, none⟩) HN.out.2 _, Blk.chg HW2.out.2.1 (Chg.setCell (T := fun b => b = b3) (Chg.refl _ _) (p := ⟨b3, 2, none⟩) rfl _) (fun e => HN.out.1 e.symm), by
    have h1 := HW2.out.2.2.set_ 2 (.int .i64 iv)
    simpa using h1⟩
   go_upto_region 16 with fail
   generalize w2.setCell ⟨b3, 2, none⟩ (.int .i64 iv) = w3 at *
   clear d1 f1 g1 k0
   have k0 : w3.cell? ⟨b1, 0, none⟩ = some (.int .u8 (kd : Nat)) := HW3.out.2.1.cell 0
   have k1 : w3.cell? ⟨b1, 1, none⟩ = some (.string st) := HW3.out.2.1.cell 1
   have k2 : w3.cell? ⟨b1, 2, none⟩ = some (.int .i64 iv) := HW3.out.2.1.cell 2
   have k3 : w3.cell? ⟨b1, 3, none⟩ = some (.int .i64 pl) := HW3.out.2.1.cell 3
   have l0 : w3.cell? ⟨b3, 0, none⟩ = some (.int .u8 (kd : Nat)) := HW3.out.2.2.cell 0
   have l1 : w3.cell? ⟨b3, 1, none⟩ = some (.string ⟨#[]⟩) := HW3.out.2.2.cell 1
   have l2 : w3.cell? ⟨b3, 2, none⟩ = some (.int .i64 iv) := HW3.out.2.2.cell 2
   have l3 : w3.cell? ⟨b3, 3, none⟩ = some (.int .i64 pl) := HW3.out.2.2.cell 3
   have HRK : Hid (R = (decide (st.data.toList = []) && decide (0 <= iv))) := zh (by rw [HR.out]; unfold rightB Tz.tx; dsimp only; rw [hk]; rfl)
   by_cases hl : iv < 0
   . have dl : decide (iv < 0) = true := dqt hl
     go_wp2_with fail
     go_ret
     exact ⟨ret_bool (by rw [HRK.out]; simp; omega), HW3.out.1⟩
   . have dl : decide (iv < 0) = false := dqf hl
     by_cases hst : st = ⟨#[]⟩
     . have HE : Hid (R = true) := zh (by rw [HRK.out, hst]; simp; omega)
       subst hst
       clear hl
       go_wp2_with (first | (refine wpList_load_row rfl 35 (.tmp 3) rfl b3 rfl 35 #[.int .u8 (kd : Nat), .string ⟨#[]⟩, .int .i64 iv, .int .i64 pl] (0, 0) _ HW3.out.2.2 underlying35 rfl (by kernel_rfl) ?_) | (refine wpList_load_row rfl 35 (.tmp 1) rfl b1 rfl 35 #[.int .u8 (kd : Nat), .string ⟨#[]⟩, .int .i64 iv, .int .i64 pl] (0, 0) _ HW3.out.2.1 underlying35 rfl (by kernel_rfl) ?_) | fail)
       go_ret
       exact ⟨ret_bool (by rw [HE.out]), HW3.out.1⟩
     . have e1 : (([] : List UInt8) == st.toList) = false := by
        rw [bfn]
        exact fun h => hst (bytes_of_list (by rw [<- h, ByteArray.toList_eq]))
       have HE : Hid (R = false) := zh (by rw [HRK.out, dqf (fun h => hst (bytes_of_list (by rw [ByteArray.toList_eq, ByteArray.toList_eq, h])))]; rfl)
       clear hst
       go_wp2_with (first | (refine wpList_load_row rfl 35 (.tmp 3) rfl b3 rfl 35 #[.int .u8 (kd : Nat), .string ⟨#[]⟩, .int .i64 iv, .int .i64 pl] (0, 0) _ HW3.out.2.2 underlying35 rfl (by kernel_rfl) ?_) | (refine wpList_load_row rfl 35 (.tmp 1) rfl b1 rfl 35 #[.int .u8 (kd : Nat), .string st, .int .i64 iv, .int .i64 pl] (0, 0) _ HW3.out.2.1 underlying35 rfl (by kernel_rfl) ?_) | fail)
       go_ret
       exact ⟨ret_bool (by rw [HE.out]), HW3.out.1⟩
 by_cases hk3 : kd = 3
 . have hk := hk3
   have m1 : ((kd : Int) == 1) = false := by simp; omega
   have m2 : ((kd : Int) == 2) = false := by simp; omega
   have m3 : ((kd : Int) == 3) = true := by simp [hk]
   have d1 : w2.cell? ⟨b1, 1, none⟩ = some (.string st) := HW2.out.2.1.cell 1
   have f1 : w2.frozen? ⟨b3, 1, none⟩ = false := HW2.out.2.2.frozen 1
   have g1 : w2.cell? ⟨b3, 1, none⟩ = some (.string ⟨#[]⟩) := HW2.out.2.2.cell 1
   have HW3 : Hid (Below w.heap.size w (w2.setCell ⟨b3, 1, none⟩ (.string st)) ∧ Blk (w2.setCell ⟨b3, 1, none⟩ (.string st)) b1 35 #[.int .u8 (kd : Nat), .string st, .int .i64 iv, .int .i64 pl] ∧ Blk (w2.setCell ⟨b3, 1, none⟩ (.string st)) b3 35 #[.int .u8 (kd : Nat), .string st, .int .i64 0, .int .i64 pl]) := zh ⟨HW2.out.1.setCell (p := ⟨b3, 1, none⟩) HN.out.2 _, Blk.chg HW2.out.2.1 (Chg.setCell (T := fun b => b = b3) (Chg.refl _ _) (p := ⟨b3, 1, none⟩) rfl _) (fun e => HN.out.1 e.symm), by
    have h1 := HW2.out.2.2.set_ 1 (.string st)
    simpa using h1⟩
   go_upto_region 20 with fail
   generalize w2.setCell ⟨b3, 1, none⟩ (.string st) = w3 at *
   clear d1 f1 g1 k0
   have k0 : w3.cell? ⟨b1, 0, none⟩ = some (.int .u8 (kd : Nat)) := HW3.out.2.1.cell 0
   have k1 : w3.cell? ⟨b1, 1, none⟩ = some (.string st) := HW3.out.2.1.cell 1
   have k2 : w3.cell? ⟨b1, 2, none⟩ = some (.int .i64 iv) := HW3.out.2.1.cell 2
   have k3 : w3.cell? ⟨b1, 3, none⟩ = some (.int .i64 pl) := HW3.out.2.1.cell 3
   have l0 : w3.cell? ⟨b3, 0, none⟩ = some (.int .u8 (kd : Nat)) := HW3.out.2.2.cell 0
   have l1 : w3.cell? ⟨b3, 1, none⟩ = some (.string st) := HW3.out.2.2.cell 1
   have l2 : w3.cell? ⟨b3, 2, none⟩ = some (.int .i64 0) := HW3.out.2.2.cell 2
   have l3 : w3.cell? ⟨b3, 3, none⟩ = some (.int .i64 pl) := HW3.out.2.2.cell 3
   have HRK : Hid (R = (decide (st.data.toList.length <= 4095) && decide (iv = 0))) := zh (by rw [HR.out]; unfold rightB Tz.tx; dsimp only; rw [hk]; rfl)
   have hsz : st.data.toList.length = st.size := by rw [Array.length_toList]; rfl
   by_cases hl : 4095 < st.size
   . have dl : decide ((st.size : Int) > 4095) = true := dqt (by omega)
     have dl' : decide (4095 < st.size) = true := dqt hl
     go_wp2_with fail
     go_ret
     exact ⟨ret_bool (by rw [HRK.out]; simp; omega), HW3.out.1⟩
   . have dl : decide ((st.size : Int) > 4095) = false := dqf (by omega)
     have dl' : decide (4095 < st.size) = false := dqf hl
     by_cases hiv : iv = 0
     . have e1 : ((0 : Int) == iv) = true := by simp [hiv]
       go_wp2_with (first | (refine wpList_load_row rfl 35 (.tmp 3) rfl b3 rfl 35 #[.int .u8 (kd : Nat), .string st, .int .i64 0, .int .i64 pl] (0, 0) _ HW3.out.2.2 underlying35 rfl (by kernel_rfl) ?_) | (refine wpList_load_row rfl 35 (.tmp 1) rfl b1 rfl 35 #[.int .u8 (kd : Nat), .string st, .int .i64 iv, .int .i64 pl] (0, 0) _ HW3.out.2.1 underlying35 rfl (by kernel_rfl) ?_) | fail)
       go_ret
       exact ⟨ret_bool (by rw [HRK.out]; simp [hiv]; omega), HW3.out.1⟩
     . have e1 : ((0 : Int) == iv) = false := by simp; omega
       go_wp2_with (first | (refine wpList_load_row rfl 35 (.tmp 3) rfl b3 rfl 35 #[.int .u8 (kd : Nat), .string st, .int .i64 0, .int .i64 pl] (0, 0) _ HW3.out.2.2 underlying35 rfl (by kernel_rfl) ?_) | (refine wpList_load_row rfl 35 (.tmp 1) rfl b1 rfl 35 #[.int .u8 (kd : Nat), .string st, .int .i64 iv, .int .i64 pl] (0, 0) _ HW3.out.2.1 underlying35 rfl (by kernel_rfl) ?_) | fail)
       go_ret
       exact ⟨ret_bool (by rw [HRK.out]; simp [hiv]), HW3.out.1⟩
 by_cases hk4 : kd = 4
 . have hk := hk4
   have m1 : ((kd : Int) == 1) = false := by simp; omega
   have m2 : ((kd : Int) == 2) = false := by simp; omega
   have m3 : ((kd : Int) == 3) = false := by simp; omega
   have m4 : ((kd : Int) == 4) = true := by simp [hk]
   have d1 : w2.cell? ⟨b1, 1, none⟩ = some (.string st) := HW2.out.2.1.cell 1
   have f1 : w2.frozen? ⟨b3, 1, none⟩ = false := HW2.out.2.2.frozen 1
   have g1 : w2.cell? ⟨b3, 1, none⟩ = some (.string ⟨#[]⟩) := HW2.out.2.2.cell 1
   have HW3 : Hid (Below w.heap.size w (w2.setCell ⟨b3, 1, none⟩ (.string st)) ∧ Blk (w2.setCell ⟨b3, 1, none⟩ (.string st)) b1 35 #[.int .u8 (kd : Nat), .string st, .int .i64 iv, .int .i64 pl] ∧ Blk (w2.setCell ⟨b3, 1, none⟩ (.string st)) b3 35 #[.int .u8 (kd : Nat), .string st, .int .i64 0, .int .i64 pl]) := zh ⟨HW2.out.1.setCell (p := ⟨b3, 1, none⟩) HN.out.2 _, Blk.chg HW2.out.2.1 (Chg.setCell (T := fun b => b = b3) (Chg.refl _ _) (p := ⟨b3, 1, none⟩) rfl _) (fun e => HN.out.1 e.symm), by
    have h1 := HW2.out.2.2.set_ 1 (.string st)
    simpa using h1⟩
   go_upto_region 24 with fail
   generalize w2.setCell ⟨b3, 1, none⟩ (.string st) = w3 at *
   clear d1 f1 g1 k0
   have k0 : w3.cell? ⟨b1, 0, none⟩ = some (.int .u8 (kd : Nat)) := HW3.out.2.1.cell 0
   have k1 : w3.cell? ⟨b1, 1, none⟩ = some (.string st) := HW3.out.2.1.cell 1
   have k2 : w3.cell? ⟨b1, 2, none⟩ = some (.int .i64 iv) := HW3.out.2.1.cell 2
   have k3 : w3.cell? ⟨b1, 3, none⟩ = some (.int .i64 pl) := HW3.out.2.1.cell 3
   have l0 : w3.cell? ⟨b3, 0, none⟩ = some (.int .u8 (kd : Nat)) := HW3.out.2.2.cell 0
   have l1 : w3.cell? ⟨b3, 1, none⟩ = some (.string st) := HW3.out.2.2.cell 1
   have l2 : w3.cell? ⟨b3, 2, none⟩ = some (.int .i64 0) := HW3.out.2.2.cell 2
   have l3 : w3.cell? ⟨b3, 3, none⟩ = some (.int .i64 pl) := HW3.out.2.2.cell 3
   have HRK : Hid (R = (decide (st.data.toList ∈ sgn17) && decide (iv = 0))) := zh (by rw [HR.out]; unfold rightB Tz.tx; dsimp only; rw [hk]; rfl)
   by_cases hiv : iv = 0
   . have e1 : ((0 : Int) == iv) = true := by simp [hiv]
     cases e10 : (st.toList == [40])
     . cases e11 : (st.toList == [41])
       . cases e12 : (st.toList == [123])
         . cases e13 : (st.toList == [125])
           . cases e14 : (st.toList == [91])
             . cases e15 : (st.toList == [93])
               . cases e16 : (st.toList == [44])
                 . cases e17 : (st.toList == [61])
                   . cases e18 : (st.toList == [60])
                     . cases e19 : (st.toList == [43])
                       . cases e20 : (st.toList == [45])
                         . cases e21 : (st.toList == [42])
                           . cases e22 : (st.toList == [47])
                             . cases e23 : (st.toList == [37])
                               . cases e24 : (st.toList == [61, 61])
                                 . cases e25 : (st.toList == [33, 61])
                                   . cases e26 : (st.toList == [60, 61])
                                     . have hns : st.data.toList ∉ sgn17 := fun h => by
                                        rw [<- ByteArray.toList_eq] at h
                                        have h2 : sgn17.contains st.toList = false := by simp only [sgn17, List.contains, List.elem, *]
                                        have h3 : sgn17.contains st.toList = true := by simpa using h
                                        rw [h3] at h2
                                        cases h2
                                       go_wp2_with fail
                                       go_ret
                                       exact ⟨ret_bool (by rw [HRK.out, dqf hns]; rfl), HW3.out.1⟩
                                     . have HIN : Hid (st.data.toList ∈ sgn17) := zh (by rw [<- ByteArray.toList_eq, show st.toList = [60, 61] by simpa using e26]; decide)
                                       go_wp2_with (first | (refine wpList_load_row rfl 35 (.tmp 3) rfl b3 rfl 35 #[.int .u8 (kd : Nat), .string st, .int .i64 0, .int .i64 pl] (0, 0) _ HW3.out.2.2 underlying35 rfl (by kernel_rfl) ?_) | (refine wpList_load_row rfl 35 (.tmp 1) rfl b1 rfl 35 #[.int .u8 (kd : Nat), .string st, .int .i64 iv, .int .i64 pl] (0, 0) _ HW3.out.2.1 underlying35 rfl (by kernel_rfl) ?_) | fail)
                                       go_ret
                                       exact ⟨ret_bool (by rw [HRK.out, dqt HIN.out]; simp [hiv]), HW3.out.1⟩
                                   . have HIN : Hid (st.data.toList ∈ sgn17) := zh (by rw [<- ByteArray.toList_eq, show st.toList = [33, 61] by simpa using e25]; decide)
                                     go_wp2_with (first | (refine wpList_load_row rfl 35 (.tmp 3) rfl b3 rfl 35 #[.int .u8 (kd : Nat), .string st, .int .i64 0, .int .i64 pl] (0, 0) _ HW3.out.2.2 underlying35 rfl (by kernel_rfl) ?_) | (refine wpList_load_row rfl 35 (.tmp 1) rfl b1 rfl 35 #[.int .u8 (kd : Nat), .string st, .int .i64 iv, .int .i64 pl] (0, 0) _ HW3.out.2.1 underlying35 rfl (by kernel_rfl) ?_) | fail)
                                     go_ret
                                     exact ⟨ret_bool (by rw [HRK.out, dqt HIN.out]; simp [hiv]), HW3.out.1⟩
                                 . have HIN : Hid (st.data.toList ∈ sgn17) := zh (by rw [<- ByteArray.toList_eq, show st.toList = [61, 61] by simpa using e24]; decide)
                                   go_wp2_with (first | (refine wpList_load_row rfl 35 (.tmp 3) rfl b3 rfl 35 #[.int .u8 (kd : Nat), .string st, .int .i64 0, .int .i64 pl] (0, 0) _ HW3.out.2.2 underlying35 rfl (by kernel_rfl) ?_) | (refine wpList_load_row rfl 35 (.tmp 1) rfl b1 rfl 35 #[.int .u8 (kd : Nat), .string st, .int .i64 iv, .int .i64 pl] (0, 0) _ HW3.out.2.1 underlying35 rfl (by kernel_rfl) ?_) | fail)
                                   go_ret
                                   exact ⟨ret_bool (by rw [HRK.out, dqt HIN.out]; simp [hiv]), HW3.out.1⟩
                               . have HIN : Hid (st.data.toList ∈ sgn17) := zh (by rw [<- ByteArray.toList_eq, show st.toList = [37] by simpa using e23]; decide)
                                 go_wp2_with (first | (refine wpList_load_row rfl 35 (.tmp 3) rfl b3 rfl 35 #[.int .u8 (kd : Nat), .string st, .int .i64 0, .int .i64 pl] (0, 0) _ HW3.out.2.2 underlying35 rfl (by kernel_rfl) ?_) | (refine wpList_load_row rfl 35 (.tmp 1) rfl b1 rfl 35 #[.int .u8 (kd : Nat), .string st, .int .i64 iv, .int .i64 pl] (0, 0) _ HW3.out.2.1 underlying35 rfl (by kernel_rfl) ?_) | fail)
                                 go_ret
                                 exact ⟨ret_bool (by rw [HRK.out, dqt HIN.out]; simp [hiv]), HW3.out.1⟩
                             . have HIN : Hid (st.data.toList ∈ sgn17) := zh (by rw [<- ByteArray.toList_eq, show st.toList = [47] by simpa using e22]; decide)
                               go_wp2_with (first | (refine wpList_load_row rfl 35 (.tmp 3) rfl b3 rfl 35 #[.int .u8 (kd : Nat), .string st, .int .i64 0, .int .i64 pl] (0, 0) _ HW3.out.2.2 underlying35 rfl (by kernel_rfl) ?_) | (refine wpList_load_row rfl 35 (.tmp 1) rfl b1 rfl 35 #[.int .u8 (kd : Nat), .string st, .int .i64 iv, .int .i64 pl] (0, 0) _ HW3.out.2.1 underlying35 rfl (by kernel_rfl) ?_) | fail)
                               go_ret
                               exact ⟨ret_bool (by rw [HRK.out, dqt HIN.out]; simp [hiv]), HW3.out.1⟩
                           . have HIN : Hid (st.data.toList ∈ sgn17) := zh (by rw [<- ByteArray.toList_eq, show st.toList = [42] by simpa using e21]; decide)
                             go_wp2_with (first | (refine wpList_load_row rfl 35 (.tmp 3) rfl b3 rfl 35 #[.int .u8 (kd : Nat), .string st, .int .i64 0, .int .i64 pl] (0, 0) _ HW3.out.2.2 underlying35 rfl (by kernel_rfl) ?_) | (refine wpList_load_row rfl 35 (.tmp 1) rfl b1 rfl 35 #[.int .u8 (kd : Nat), .string st, .int .i64 iv, .int .i64 pl] (0, 0) _ HW3.out.2.1 underlying35 rfl (by kernel_rfl) ?_) | fail)
                             go_ret
                             exact ⟨ret_bool (by rw [HRK.out, dqt HIN.out]; simp [hiv]), HW3.out.1⟩
                         . have HIN : Hid (st.data.toList ∈ sgn17) := zh (by rw [<- ByteArray.toList_eq, show st.toList = [45] by simpa using e20]; decide)
                           go_wp2_with (first | (refine wpList_load_row rfl 35 (.tmp 3) rfl b3 rfl 35 #[.int .u8 (kd : Nat), .string st, .int .i64 0, .int .i64 pl] (0, 0) _ HW3.out.2.2 underlying35 rfl (by kernel_rfl) ?_) | (refine wpList_load_row rfl 35 (.tmp 1) rfl b1 rfl 35 #[.int .u8 (kd : Nat), .string st, .int .i64 iv, .int .i64 pl] (0, 0) _ HW3.out.2.1 underlying35 rfl (by kernel_rfl) ?_) | fail)
                           go_ret
                           exact ⟨ret_bool (by rw [HRK.out, dqt HIN.out]; simp [hiv]), HW3.out.1⟩
                       . have HIN : Hid (st.data.toList ∈ sgn17) := zh (by rw [<- ByteArray.toList_eq, show st.toList = [43] by simpa using e19]; decide)
                         go_wp2_with (first | (refine wpList_load_row rfl 35 (.tmp 3) rfl b3 rfl 35 #[.int .u8 (kd : Nat), .string st, .int .i64 0, .int .i64 pl] (0, 0) _ HW3.out.2.2 underlying35 rfl (by kernel_rfl) ?_) | (refine wpList_load_row rfl 35 (.tmp 1) rfl b1 rfl 35 #[.int .u8 (kd : Nat), .string st, .int .i64 iv, .int .i64 pl] (0, 0) _ HW3.out.2.1 underlying35 rfl (by kernel_rfl) ?_) | fail)
                         go_ret
                         exact ⟨ret_bool (by rw [HRK.out, dqt HIN.out]; simp [hiv]), HW3.out.1⟩
                     . have HIN : Hid (st.data.toList ∈ sgn17) := zh (by rw [<- ByteArray.toList_eq, show st.toList = [60] by simpa using e18]; decide)
                       go_wp2_with (first | (refine wpList_load_row rfl 35 (.tmp 3) rfl b3 rfl 35 #[.int .u8 (kd : Nat), .string st, .int .i64 0, .int .i64 pl] (0, 0) _ HW3.out.2.2 underlying35 rfl (by kernel_rfl) ?_) | (refine wpList_load_row rfl 35 (.tmp 1) rfl b1 rfl 35 #[.int .u8 (kd : Nat), .string st, .int .i64 iv, .int .i64 pl] (0, 0) _ HW3.out.2.1 underlying35 rfl (by kernel_rfl) ?_) | fail)
                       go_ret
                       exact ⟨ret_bool (by rw [HRK.out, dqt HIN.out]; simp [hiv]), HW3.out.1⟩
                   . have HIN : Hid (st.data.toList ∈ sgn17) := zh (by rw [<- ByteArray.toList_eq, show st.toList = [61] by simpa using e17]; decide)
                     go_wp2_with (first | (refine wpList_load_row rfl 35 (.tmp 3) rfl b3 rfl 35 #[.int .u8 (kd : Nat), .string st, .int .i64 0, .int .i64 pl] (0, 0) _ HW3.out.2.2 underlying35 rfl (by kernel_rfl) ?_) | (refine wpList_load_row rfl 35 (.tmp 1) rfl b1 rfl 35 #[.int .u8 (kd : Nat), .string st, .int .i64 iv, .int .i64 pl] (0, 0) _ HW3.out.2.1 underlying35 rfl (by kernel_rfl) ?_) | fail)
                     go_ret
                     exact ⟨ret_bool (by rw [HRK.out, dqt HIN.out]; simp [hiv]), HW3.out.1⟩
                 . have HIN : Hid (st.data.toList ∈ sgn17) := zh (by rw [<- ByteArray.toList_eq, show st.toList = [44] by simpa using e16]; decide)
                   go_wp2_with (first | (refine wpList_load_row rfl 35 (.tmp 3) rfl b3 rfl 35 #[.int .u8 (kd : Nat), .string st, .int .i64 0, .int .i64 pl] (0, 0) _ HW3.out.2.2 underlying35 rfl (by kernel_rfl) ?_) | (refine wpList_load_row rfl 35 (.tmp 1) rfl b1 rfl 35 #[.int .u8 (kd : Nat), .string st, .int .i64 iv, .int .i64 pl] (0, 0) _ HW3.out.2.1 underlying35 rfl (by kernel_rfl) ?_) | fail)
                   go_ret
                   exact ⟨ret_bool (by rw [HRK.out, dqt HIN.out]; simp [hiv]), HW3.out.1⟩
               . have HIN : Hid (st.data.toList ∈ sgn17) := zh (by rw [<- ByteArray.toList_eq, show st.toList = [93] by simpa using e15]; decide)
                 go_wp2_with (first | (refine wpList_load_row rfl 35 (.tmp 3) rfl b3 rfl 35 #[.int .u8 (kd : Nat), .string st, .int .i64 0, .int .i64 pl] (0, 0) _ HW3.out.2.2 underlying35 rfl (by kernel_rfl) ?_) | (refine wpList_load_row rfl 35 (.tmp 1) rfl b1 rfl 35 #[.int .u8 (kd : Nat), .string st, .int .i64 iv, .int .i64 pl] (0, 0) _ HW3.out.2.1 underlying35 rfl (by kernel_rfl) ?_) | fail)
                 go_ret
                 exact ⟨ret_bool (by rw [HRK.out, dqt HIN.out]; simp [hiv]), HW3.out.1⟩
             . have HIN : Hid (st.data.toList ∈ sgn17) := zh (by rw [<- ByteArray.toList_eq, show st.toList = [91] by simpa using e14]; decide)
               go_wp2_with (first | (refine wpList_load_row rfl 35 (.tmp 3) rfl b3 rfl 35 #[.int .u8 (kd : Nat), .string st, .int .i64 0, .int .i64 pl] (0, 0) _ HW3.out.2.2 underlying35 rfl (by kernel_rfl) ?_) | (refine wpList_load_row rfl 35 (.tmp 1) rfl b1 rfl 35 #[.int .u8 (kd : Nat), .string st, .int .i64 iv, .int .i64 pl] (0, 0) _ HW3.out.2.1 underlying35 rfl (by kernel_rfl) ?_) | fail)
               go_ret
               exact ⟨ret_bool (by rw [HRK.out, dqt HIN.out]; simp [hiv]), HW3.out.1⟩
           . have HIN : Hid (st.data.toList ∈ sgn17) := zh (by rw [<- ByteArray.toList_eq, show st.toList = [125] by simpa using e13]; decide)
             go_wp2_with (first | (refine wpList_load_row rfl 35 (.tmp 3) rfl b3 rfl 35 #[.int .u8 (kd : Nat), .string st, .int .i64 0, .int .i64 pl] (0, 0) _ HW3.out.2.2 underlying35 rfl (by kernel_rfl) ?_) | (refine wpList_load_row rfl 35 (.tmp 1) rfl b1 rfl 35 #[.int .u8 (kd : Nat), .string st, .int .i64 iv, .int .i64 pl] (0, 0) _ HW3.out.2.1 underlying35 rfl (by kernel_rfl) ?_) | fail)
             go_ret
             exact ⟨ret_bool (by rw [HRK.out, dqt HIN.out]; simp [hiv]), HW3.out.1⟩
         . have HIN : Hid (st.data.toList ∈ sgn17) := zh (by rw [<- ByteArray.toList_eq, show st.toList = [123] by simpa using e12]; decide)
           go_wp2_with (first | (refine wpList_load_row rfl 35 (.tmp 3) rfl b3 rfl 35 #[.int .u8 (kd : Nat), .string st, .int .i64 0, .int .i64 pl] (0, 0) _ HW3.out.2.2 underlying35 rfl (by kernel_rfl) ?_) | (refine wpList_load_row rfl 35 (.tmp 1) rfl b1 rfl 35 #[.int .u8 (kd : Nat), .string st, .int .i64 iv, .int .i64 pl] (0, 0) _ HW3.out.2.1 underlying35 rfl (by kernel_rfl) ?_) | fail)
           go_ret
           exact ⟨ret_bool (by rw [HRK.out, dqt HIN.out]; simp [hiv]), HW3.out.1⟩
       . have HIN : Hid (st.data.toList ∈ sgn17) := zh (by rw [<- ByteArray.toList_eq, show st.toList = [41] by simpa using e11]; decide)
         go_wp2_with (first | (refine wpList_load_row rfl 35 (.tmp 3) rfl b3 rfl 35 #[.int .u8 (kd : Nat), .string st, .int .i64 0, .int .i64 pl] (0, 0) _ HW3.out.2.2 underlying35 rfl (by kernel_rfl) ?_) | (refine wpList_load_row rfl 35 (.tmp 1) rfl b1 rfl 35 #[.int .u8 (kd : Nat), .string st, .int .i64 iv, .int .i64 pl] (0, 0) _ HW3.out.2.1 underlying35 rfl (by kernel_rfl) ?_) | fail)
         go_ret
         exact ⟨ret_bool (by rw [HRK.out, dqt HIN.out]; simp [hiv]), HW3.out.1⟩
     . have HIN : Hid (st.data.toList ∈ sgn17) := zh (by rw [<- ByteArray.toList_eq, show st.toList = [40] by simpa using e10]; decide)
       go_wp2_with (first | (refine wpList_load_row rfl 35 (.tmp 3) rfl b3 rfl 35 #[.int .u8 (kd : Nat), .string st, .int .i64 0, .int .i64 pl] (0, 0) _ HW3.out.2.2 underlying35 rfl (by kernel_rfl) ?_) | (refine wpList_load_row rfl 35 (.tmp 1) rfl b1 rfl 35 #[.int .u8 (kd : Nat), .string st, .int .i64 iv, .int .i64 pl] (0, 0) _ HW3.out.2.1 underlying35 rfl (by kernel_rfl) ?_) | fail)
       go_ret
       exact ⟨ret_bool (by rw [HRK.out, dqt HIN.out]; simp [hiv]), HW3.out.1⟩
   . have e1 : ((0 : Int) == iv) = false := by simp; omega
     cases e10 : (st.toList == [40])
     . cases e11 : (st.toList == [41])
       . cases e12 : (st.toList == [123])
         . cases e13 : (st.toList == [125])
           . cases e14 : (st.toList == [91])
             . cases e15 : (st.toList == [93])
               . cases e16 : (st.toList == [44])
                 . cases e17 : (st.toList == [61])
                   . cases e18 : (st.toList == [60])
                     . cases e19 : (st.toList == [43])
                       . cases e20 : (st.toList == [45])
                         . cases e21 : (st.toList == [42])
                           . cases e22 : (st.toList == [47])
                             . cases e23 : (st.toList == [37])
                               . cases e24 : (st.toList == [61, 61])
                                 . cases e25 : (st.toList == [33, 61])
                                   . cases e26 : (st.toList == [60, 61])
                                     . have hns : st.data.toList ∉ sgn17 := fun h => by
                                        rw [<- ByteArray.toList_eq] at h
                                        have h2 : sgn17.contains st.toList = false := by simp only [sgn17, List.contains, List.elem, *]
                                        have h3 : sgn17.contains st.toList = true := by simpa using h
                                        rw [h3] at h2
                                        cases h2
                                       go_wp2_with fail
                                       go_ret
                                       exact ⟨ret_bool (by rw [HRK.out, dqf hns]; rfl), HW3.out.1⟩
                                     . have HIN : Hid (st.data.toList ∈ sgn17) := zh (by rw [<- ByteArray.toList_eq, show st.toList = [60, 61] by simpa using e26]; decide)
                                       go_wp2_with (first | (refine wpList_load_row rfl 35 (.tmp 3) rfl b3 rfl 35 #[.int .u8 (kd : Nat), .string st, .int .i64 0, .int .i64 pl] (0, 0) _ HW3.out.2.2 underlying35 rfl (by kernel_rfl) ?_) | (refine wpList_load_row rfl 35 (.tmp 1) rfl b1 rfl 35 #[.int .u8 (kd : Nat), .string st, .int .i64 iv, .int .i64 pl] (0, 0) _ HW3.out.2.1 underlying35 rfl (by kernel_rfl) ?_) | fail)
                                       go_ret
                                       exact ⟨ret_bool (by rw [HRK.out, dqt HIN.out]; simp [hiv]), HW3.out.1⟩
                                   . have HIN : Hid (st.data.toList ∈ sgn17) := zh (by rw [<- ByteArray.toList_eq, show st.toList = [33, 61] by simpa using e25]; decide)
                                     go_wp2_with (first | (refine wpList_load_row rfl 35 (.tmp 3) rfl b3 rfl 35 #[.int .u8 (kd : Nat), .string st, .int .i64 0, .int .i64 pl] (0, 0) _ HW3.out.2.2 underlying35 rfl (by kernel_rfl) ?_) | (refine wpList_load_row rfl 35 (.tmp 1) rfl b1 rfl 35 #[.int .u8 (kd : Nat), .string st, .int .i64 iv, .int .i64 pl] (0, 0) _ HW3.out.2.1 underlying35 rfl (by kernel_rfl) ?_) | fail)
                                     go_ret
                                     exact ⟨ret_bool (by rw [HRK.out, dqt HIN.out]; simp [hiv]), HW3.out.1⟩
                                 . have HIN : Hid (st.data.toList ∈ sgn17) := zh (by rw [<- ByteArray.toList_eq, show st.toList = [61, 61] by simpa using e24]; decide)
                                   go_wp2_with (first | (refine wpList_load_row rfl 35 (.tmp 3) rfl b3 rfl 35 #[.int .u8 (kd : Nat), .string st, .int .i64 0, .int .i64 pl] (0, 0) _ HW3.out.2.2 underlying35 rfl (by kernel_rfl) ?_) | (refine wpList_load_row rfl 35 (.tmp 1) rfl b1 rfl 35 #[.int .u8 (kd : Nat), .string st, .int .i64 iv, .int .i64 pl] (0, 0) _ HW3.out.2.1 underlying35 rfl (by kernel_rfl) ?_) | fail)
                                   go_ret
                                   exact ⟨ret_bool (by rw [HRK.out, dqt HIN.out]; simp [hiv]), HW3.out.1⟩
                               . have HIN : Hid (st.data.toList ∈ sgn17) := zh (by rw [<- ByteArray.toList_eq, show st.toList = [37] by simpa using e23]; decide)
                                 go_wp2_with (first | (refine wpList_load_row rfl 35 (.tmp 3) rfl b3 rfl 35 #[.int .u8 (kd : Nat), .string st, .int .i64 0, .int .i64 pl] (0, 0) _ HW3.out.2.2 underlying35 rfl (by kernel_rfl) ?_) | (refine wpList_load_row rfl 35 (.tmp 1) rfl b1 rfl 35 #[.int .u8 (kd : Nat), .string st, .int .i64 iv, .int .i64 pl] (0, 0) _ HW3.out.2.1 underlying35 rfl (by kernel_rfl) ?_) | fail)
                                 go_ret
                                 exact ⟨ret_bool (by rw [HRK.out, dqt HIN.out]; simp [hiv]), HW3.out.1⟩
                             . have HIN : Hid (st.data.toList ∈ sgn17) := zh (by rw [<- ByteArray.toList_eq, show st.toList = [47] by simpa using e22]; decide)
                               go_wp2_with (first | (refine wpList_load_row rfl 35 (.tmp 3) rfl b3 rfl 35 #[.int .u8 (kd : Nat), .string st, .int .i64 0, .int .i64 pl] (0, 0) _ HW3.out.2.2 underlying35 rfl (by kernel_rfl) ?_) | (refine wpList_load_row rfl 35 (.tmp 1) rfl b1 rfl 35 #[.int .u8 (kd : Nat), .string st, .int .i64 iv, .int .i64 pl] (0, 0) _ HW3.out.2.1 underlying35 rfl (by kernel_rfl) ?_) | fail)
                               go_ret
                               exact ⟨ret_bool (by rw [HRK.out, dqt HIN.out]; simp [hiv]), HW3.out.1⟩
                           . have HIN : Hid (st.data.toList ∈ sgn17) := zh (by rw [<- ByteArray.toList_eq, show st.toList = [42] by simpa using e21]; decide)
                             go_wp2_with (first | (refine wpList_load_row rfl 35 (.tmp 3) rfl b3 rfl 35 #[.int .u8 (kd : Nat), .string st, .int .i64 0, .int .i64 pl] (0, 0) _ HW3.out.2.2 underlying35 rfl (by kernel_rfl) ?_) | (refine wpList_load_row rfl 35 (.tmp 1) rfl b1 rfl 35 #[.int .u8 (kd : Nat), .string st, .int .i64 iv, .int .i64 pl] (0, 0) _ HW3.out.2.1 underlying35 rfl (by kernel_rfl) ?_) | fail)
                             go_ret
                             exact ⟨ret_bool (by rw [HRK.out, dqt HIN.out]; simp [hiv]), HW3.out.1⟩
                         . have HIN : Hid (st.data.toList ∈ sgn17) := zh (by rw [<- ByteArray.toList_eq, show st.toList = [45] by simpa using e20]; decide)
                           go_wp2_with (first | (refine wpList_load_row rfl 35 (.tmp 3) rfl b3 rfl 35 #[.int .u8 (kd : Nat), .string st, .int .i64 0, .int .i64 pl] (0, 0) _ HW3.out.2.2 underlying35 rfl (by kernel_rfl) ?_) | (refine wpList_load_row rfl 35 (.tmp 1) rfl b1 rfl 35 #[.int .u8 (kd : Nat), .string st, .int .i64 iv, .int .i64 pl] (0, 0) _ HW3.out.2.1 underlying35 rfl (by kernel_rfl) ?_) | fail)
                           go_ret
                           exact ⟨ret_bool (by rw [HRK.out, dqt HIN.out]; simp [hiv]), HW3.out.1⟩
                       . have HIN : Hid (st.data.toList ∈ sgn17) := zh (by rw [<- ByteArray.toList_eq, show st.toList = [43] by simpa using e19]; decide)
                         go_wp2_with (first | (refine wpList_load_row rfl 35 (.tmp 3) rfl b3 rfl 35 #[.int .u8 (kd : Nat), .string st, .int .i64 0, .int .i64 pl] (0, 0) _ HW3.out.2.2 underlying35 rfl (by kernel_rfl) ?_) | (refine wpList_load_row rfl 35 (.tmp 1) rfl b1 rfl 35 #[.int .u8 (kd : Nat), .string st, .int .i64 iv, .int .i64 pl] (0, 0) _ HW3.out.2.1 underlying35 rfl (by kernel_rfl) ?_) | fail)
                         go_ret
                         exact ⟨ret_bool (by rw [HRK.out, dqt HIN.out]; simp [hiv]), HW3.out.1⟩
                     . have HIN : Hid (st.data.toList ∈ sgn17) := zh (by rw [<- ByteArray.toList_eq, show st.toList = [60] by simpa using e18]; decide)
                       go_wp2_with (first | (refine wpList_load_row rfl 35 (.tmp 3) rfl b3 rfl 35 #[.int .u8 (kd : Nat), .string st, .int .i64 0, .int .i64 pl] (0, 0) _ HW3.out.2.2 underlying35 rfl (by kernel_rfl) ?_) | (refine wpList_load_row rfl 35 (.tmp 1) rfl b1 rfl 35 #[.int .u8 (kd : Nat), .string st, .int .i64 iv, .int .i64 pl] (0, 0) _ HW3.out.2.1 underlying35 rfl (by kernel_rfl) ?_) | fail)
                       go_ret
                       exact ⟨ret_bool (by rw [HRK.out, dqt HIN.out]; simp [hiv]), HW3.out.1⟩
                   . have HIN : Hid (st.data.toList ∈ sgn17) := zh (by rw [<- ByteArray.toList_eq, show st.toList = [61] by simpa using e17]; decide)
                     go_wp2_with (first | (refine wpList_load_row rfl 35 (.tmp 3) rfl b3 rfl 35 #[.int .u8 (kd : Nat), .string st, .int .i64 0, .int .i64 pl] (0, 0) _ HW3.out.2.2 underlying35 rfl (by kernel_rfl) ?_) | (refine wpList_load_row rfl 35 (.tmp 1) rfl b1 rfl 35 #[.int .u8 (kd : Nat), .string st, .int .i64 iv, .int .i64 pl] (0, 0) _ HW3.out.2.1 underlying35 rfl (by kernel_rfl) ?_) | fail)
                     go_ret
                     exact ⟨ret_bool (by rw [HRK.out, dqt HIN.out]; simp [hiv]), HW3.out.1⟩
                 . have HIN : Hid (st.data.toList ∈ sgn17) := zh (by rw [<- ByteArray.toList_eq, show st.toList = [44] by simpa using e16]; decide)
                   go_wp2_with (first | (refine wpList_load_row rfl 35 (.tmp 3) rfl b3 rfl 35 #[.int .u8 (kd : Nat), .string st, .int .i64 0, .int .i64 pl] (0, 0) _ HW3.out.2.2 underlying35 rfl (by kernel_rfl) ?_) | (refine wpList_load_row rfl 35 (.tmp 1) rfl b1 rfl 35 #[.int .u8 (kd : Nat), .string st, .int .i64 iv, .int .i64 pl] (0, 0) _ HW3.out.2.1 underlying35 rfl (by kernel_rfl) ?_) | fail)
                   go_ret
                   exact ⟨ret_bool (by rw [HRK.out, dqt HIN.out]; simp [hiv]), HW3.out.1⟩
               . have HIN : Hid (st.data.toList ∈ sgn17) := zh (by rw [<- ByteArray.toList_eq, show st.toList = [93] by simpa using e15]; decide)
                 go_wp2_with (first | (refine wpList_load_row rfl 35 (.tmp 3) rfl b3 rfl 35 #[.int .u8 (kd : Nat), .string st, .int .i64 0, .int .i64 pl] (0, 0) _ HW3.out.2.2 underlying35 rfl (by kernel_rfl) ?_) | (refine wpList_load_row rfl 35 (.tmp 1) rfl b1 rfl 35 #[.int .u8 (kd : Nat), .string st, .int .i64 iv, .int .i64 pl] (0, 0) _ HW3.out.2.1 underlying35 rfl (by kernel_rfl) ?_) | fail)
                 go_ret
                 exact ⟨ret_bool (by rw [HRK.out, dqt HIN.out]; simp [hiv]), HW3.out.1⟩
             . have HIN : Hid (st.data.toList ∈ sgn17) := zh (by rw [<- ByteArray.toList_eq, show st.toList = [91] by simpa using e14]; decide)
               go_wp2_with (first | (refine wpList_load_row rfl 35 (.tmp 3) rfl b3 rfl 35 #[.int .u8 (kd : Nat), .string st, .int .i64 0, .int .i64 pl] (0, 0) _ HW3.out.2.2 underlying35 rfl (by kernel_rfl) ?_) | (refine wpList_load_row rfl 35 (.tmp 1) rfl b1 rfl 35 #[.int .u8 (kd : Nat), .string st, .int .i64 iv, .int .i64 pl] (0, 0) _ HW3.out.2.1 underlying35 rfl (by kernel_rfl) ?_) | fail)
               go_ret
               exact ⟨ret_bool (by rw [HRK.out, dqt HIN.out]; simp [hiv]), HW3.out.1⟩
           . have HIN : Hid (st.data.toList ∈ sgn17) := zh (by rw [<- ByteArray.toList_eq, show st.toList = [125] by simpa using e13]; decide)
             go_wp2_with (first | (refine wpList_load_row rfl 35 (.tmp 3) rfl b3 rfl 35 #[.int .u8 (kd : Nat), .string st, .int .i64 0, .int .i64 pl] (0, 0) _ HW3.out.2.2 underlying35 rfl (by kernel_rfl) ?_) | (refine wpList_load_row rfl 35 (.tmp 1) rfl b1 rfl 35 #[.int .u8 (kd : Nat), .string st, .int .i64 iv, .int .i64 pl] (0, 0) _ HW3.out.2.1 underlying35 rfl (by kernel_rfl) ?_) | fail)
             go_ret
             exact ⟨ret_bool (by rw [HRK.out, dqt HIN.out]; simp [hiv]), HW3.out.1⟩
         . have HIN : Hid (st.data.toList ∈ sgn17) := zh (by rw [<- ByteArray.toList_eq, show st.toList = [123] by simpa using e12]; decide)
           go_wp2_with (first | (refine wpList_load_row rfl 35 (.tmp 3) rfl b3 rfl 35 #[.int .u8 (kd : Nat), .string st, .int .i64 0, .int .i64 pl] (0, 0) _ HW3.out.2.2 underlying35 rfl (by kernel_rfl) ?_) | (refine wpList_load_row rfl 35 (.tmp 1) rfl b1 rfl 35 #[.int .u8 (kd : Nat), .string st, .int .i64 iv, .int .i64 pl] (0, 0) _ HW3.out.2.1 underlying35 rfl (by kernel_rfl) ?_) | fail)
           go_ret
           exact ⟨ret_bool (by rw [HRK.out, dqt HIN.out]; simp [hiv]), HW3.out.1⟩
       . have HIN : Hid (st.data.toList ∈ sgn17) := zh (by rw [<- ByteArray.toList_eq, show st.toList = [41] by simpa using e11]; decide)
         go_wp2_with (first | (refine wpList_load_row rfl 35 (.tmp 3) rfl b3 rfl 35 #[.int .u8 (kd : Nat), .string st, .int .i64 0, .int .i64 pl] (0, 0) _ HW3.out.2.2 underlying35 rfl (by kernel_rfl) ?_) | (refine wpList_load_row rfl 35 (.tmp 1) rfl b1 rfl 35 #[.int .u8 (kd : Nat), .string st, .int .i64 iv, .int .i64 pl] (0, 0) _ HW3.out.2.1 underlying35 rfl (by kernel_rfl) ?_) | fail)
         go_ret
         exact ⟨ret_bool (by rw [HRK.out, dqt HIN.out]; simp [hiv]), HW3.out.1⟩
     . have HIN : Hid (st.data.toList ∈ sgn17) := zh (by rw [<- ByteArray.toList_eq, show st.toList = [40] by simpa using e10]; decide)
       go_wp2_with (first | (refine wpList_load_row rfl 35 (.tmp 3) rfl b3 rfl 35 #[.int .u8 (kd : Nat), .string st, .int .i64 0, .int .i64 pl] (0, 0) _ HW3.out.2.2 underlying35 rfl (by kernel_rfl) ?_) | (refine wpList_load_row rfl 35 (.tmp 1) rfl b1 rfl 35 #[.int .u8 (kd : Nat), .string st, .int .i64 iv, .int .i64 pl] (0, 0) _ HW3.out.2.1 underlying35 rfl (by kernel_rfl) ?_) | fail)
       go_ret
       exact ⟨ret_bool (by rw [HRK.out, dqt HIN.out]; simp [hiv]), HW3.out.1⟩
 have m1 : ((kd : Int) == 1) = false := by simp; omega
 have m2 : ((kd : Int) == 2) = false := by simp; omega
 have m3 : ((kd : Int) == 3) = false := by simp; omega
 have m4 : ((kd : Int) == 4) = false := by simp; omega
 have HRK : Hid (R = false) := zh (by rw [HR.out]; unfold rightB; dsimp only; rw [if_neg hk1, if_neg hk2, if_neg hk3, if_neg hk4])
 go_wp2_with fail
 go_ret
 exact ⟨ret_bool (by rw [HRK.out]), HW2.out.1⟩
theorem hex_all : ∀ q : Fin 16, (⟨#[48, 49, 50, 51, 52, 53, 54, 55, 56, 57, 97, 98, 99, 100, 101, 102]⟩ : ByteArray)[q.val]'(by have := q.isLt; exact this) = hx q.val := by decide
theorem hex_get {q : Nat} (h : q < 16) : (⟨#[48, 49, 50, 51, 52, 53, 54, 55, 56, 57, 97, 98, 99, 100, 101, 102]⟩ : ByteArray)[q]'(by exact h) = hx q := hex_all ⟨q, h⟩
theorem hex_getz {z : Int} {q : Nat} (e : z = (q : Int)) (hq : q < 16) (h : z.toNat < (⟨#[48, 49, 50, 51, 52, 53, 54, 55, 56, 57, 97, 98, 99, 100, 101, 102]⟩ : ByteArray).size) : (⟨#[48, 49, 50, 51, 52, 53, 54, 55, 56, 57, 97, 98, 99, 100, 101, 102]⟩ : ByteArray)[z.toNat]'h = hx q := by
 subst e
 exact hex_get hq
theorem reads_n {w : World} {g : Nat} {e : TypeId} {l : List Value} {B m : Nat} (h : Blk w g e l.toArray) (hl : l.length = m) (hB : g < B) : Reads w B 1 (some ⟨g, 0, none⟩) m l :=
 ⟨by rw [hl, Nat.mul_one], fun _ => ⟨_, rfl, hB, fun j x hx => by rw [addr_add, Nat.zero_add, h.cell, <- hx, List.getElem?_toArray]⟩⟩
theorem cells_new (w : World) (cs : List Value) (t : TypeId) : ∀ j u, cs[j]? = some u -> (w.alloc (.cells cs.toArray t)).cell? ((⟨w.heap.size, 0, none⟩ : Addr).add j) = some u := fun j u hj => by
 rw [addr_add, Nat.zero_add]
 have := (Blk.new w t cs.toArray).cell j
 rw [this, <- hj]
 simp
set_option maxRecDepth 100000 in
theorem quoted_any (s : List UInt8) (hs : s.length <= 5000) (w : World) : Calls prog 49 #[.string ⟨s.toArray⟩] w fun e w' => e = .returned (.string ⟨(quoteL s).toArray⟩) ∧ Below w.heap.size w w' := by
 obtain ⟨i0, hi0, hz0, hz1, hz2⟩ := info_parts Tryd.info5
 have HI := zh (ai hi0 (ai hz0 (ai hz1 hz2)))
 clear hi0 hz0 hz1 hz2
 obtain ⟨st, hst⟩ : ∃ st : ByteArray, st = ⟨s.toArray⟩ := ⟨_, rfl⟩
 have hsz : st.size = s.length := by rw [hst]; rfl
 obtain ⟨n, hn⟩ := ex s.length
 obtain ⟨R, hR⟩ := ex (quoteL s)
 rw [<- hst, <- hR]
 rw [<- hn] at hsz hs
 have HST := zh hst
 have HN := zh hn
 have HR0 := zh hR
 clear hst hn hR
 have HO0 : Hid ((w.alloc (.cells #[.int .u8 34] 5)).ownsRow w.heap.size 5 1 (.slice (some ⟨w.heap.size, 0, none⟩) 1 1) 1 (bcells [34]) ∧ Below w.heap.size w (w.alloc (.cells #[.int .u8 34] 5))) := zh ⟨by
  exact ⟨rfl, .inr ⟨w.heap.size, 1, #[.int .u8 34], rfl, nlr _, heap_alloc_new w _, nlr _, by unfold maxLen; omega, rfl, rfl⟩⟩, (Below.refl _ _).alloc (nlr _) _⟩
 go_in
 go_upto_region 2 with fail
 generalize w.alloc (.cells #[.int .u8 34] 5) = w0 at *
 go_wp2_with fail
 go_loopw [9, 3] (fun s9 s3 wr => ∃ (k : Nat) (b : List UInt8) (A : Option Addr) (cap : Nat), s9 = .int .i64 k ∧ s3 = .slice A b.length cap ∧ k <= n ∧ b = 34 :: (s.take k).flatMap q1 ∧ b.length <= 1 + 4 * k ∧ wr.ownsRow w.heap.size 5 1 (.slice A b.length cap) b.length (bcells b) ∧ Below w.heap.size w wr) (fun s9 _ _ => n - (intOf s9).toNat)
 case atStart => exact ⟨0, [34], some ⟨w.heap.size, 0, none⟩, 1, by go_num, rfl, by omega, by simp, by simp, HO0.out.1, HO0.out.2⟩
 case round =>
  clear HO0
  obtain ⟨k, b, A, cap, rfl, rfl, hkn, hbd, hbl, ho, hb⟩ := hrel
  have HB := zh hb
  obtain ⟨m, hm⟩ := ex b.length
  rw [<- hm] at ho hbl |-
  have HO := zh ho
  have HM := zh hm
  have HBD := zh hbd
  clear hbd hb ho hm
  by_cases hlt : k < n
  . have di : decide ((k : Int) < (n : Int)) = true := dqt (by omega)
    have hks : k < s.length := by rw [<- HN.out]; exact hlt
    obtain ⟨ch, hch⟩ : ∃ c, c = s[k] := ⟨_, rfl⟩
    have hkst : k < st.size := by omega
    have hg : st[k] = ch := by rw [hch]; exact st_get HST.out hkst hks
    have HTK : Hid (s.take (k + 1) = s.take k ++ [ch]) := zh (by rw [hch]; exact List.take_succ_eq_append_getElem hks)
    have hcl : ch.toNat < 256 := UInt8.toNat_lt _
    have HE : Hid (∀ q : UInt8, ch = q ↔ ch.toNat = q.toNat) := fun q => ⟨fun h => by rw [h], fun h => UInt8.toNat_inj.1 h⟩
    obtain ⟨cv, hcv⟩ : ∃ v, v = ch.toNat := ⟨_, rfl⟩
    have hg2 : st[k].toNat = cv := by rw [hg, hcv]
    have HCV := zh hcv
    rw [<- hcv] at hcl
    have k0 : (0 : Int) <= (k : Int) := by omega
    have k1 : (k : Int) < (n : Int) := by omega
    clear hg hcv hch hks
    by_cases h34 : cv = 34 ∨ cv = 92
    . have H34 : Hid (ch = 34 ∨ ch = 92) := zh (h34.imp (fun h => (HE.out 34).2 (HCV.out.symm.trans h)) (fun h => (HE.out 92).2 (HCV.out.symm.trans h)))
      by_cases h34' : cv = 34
      . have e34 : ((cv : Int) == 34) = true := by rw [h34']; rfl
        clear h34 h34'
        have HQ : Hid (q1 ch = [92, ch]) := zh (by unfold q1; rw [if_pos H34.out])
        have HX2 : Hid (bcells (b ++ q1 ch) = bcells b ++ [.int .u8 92, .int .u8 (cv : Nat)]) := zh (by rw [bcells_append, HQ.out]; simp [bcells, HCV.out])
        have HL : Hid ((b ++ q1 ch).length = m + 2) := zh (by rw [lna, HQ.out, <- HM.out]; rfl)
        obtain ⟨hi0, hz0, hz1, hz2⟩ := HI.out
        go_wp2_with (at_builtin; refine wpList_append_own _ rfl (.tmp 26) (.tmp 28) 73 rfl w.heap.size 5 i0 (.int .u8 0) 1 1 underlying73 hi0 hz0 hz1 hz2 rfl (by decide) (.slice A m cap) m (bcells b) rfl (HO.out.alloc _) ⟨wr.heap.size, 0, none⟩ 2 2 [.int .u8 92, .int .u8 (cv : Nat)] rfl rfl (cells_new _ _ _) (by intro u hu; simp only [List.mem_cons, List.not_mem_nil, or_false] at hu; rcases hu with rfl | rfl <;> rfl) (by unfold maxLen; omega) (by omega) (by have := HB.out.size; simp; omega) ?_; intro v3 w3 ho3 hg3 _; obtain ⟨A3, c3, rfl, _⟩ := own_form ho3; have HO3 := zh ho3; have HG3 := zh hg3; clear ho3 hg3)
        go_wp2_with fail
        go_roundw
        case rel => exact ⟨k + 1, b ++ q1 ch, A3, c3, by go_num, by rw [HL.out], by omega, by rw [HTK.out, List.flatMap_append, <- List.cons_append, <- HBD.out]; simp, by rw [HL.out]; omega, by rw [HL.out, HX2.out]; exact HO3.out, (HB.out.alloc HB.out.size _).grown HG3.out (by have := HB.out.size; simp; omega) (fun g hg => (World.ownsRow.lt HO.out g hg).1)⟩
        case measure => simp [intOf]; omega
      . have e34 : ((cv : Int) == 34) = false := by rw [bfn]; omega
        have e92 : ((cv : Int) == 92) = true := by rw [h34.resolve_left h34']; rfl
        clear h34 h34'
        have HQ : Hid (q1 ch = [92, ch]) := zh (by unfold q1; rw [if_pos H34.out])
        have HX2 : Hid (bcells (b ++ q1 ch) = bcells b ++ [.int .u8 92, .int .u8 (cv : Nat)]) := zh (by rw [bcells_append, HQ.out]; simp [bcells, HCV.out])
        have HL : Hid ((b ++ q1 ch).length = m + 2) := zh (by rw [lna, HQ.out, <- HM.out]; rfl)
        obtain ⟨hi0, hz0, hz1, hz2⟩ := HI.out
        go_wp2_with (at_builtin; refine wpList_append_own _ rfl (.tmp 26) (.tmp 28) 73 rfl w.heap.size 5 i0 (.int .u8 0) 1 1 underlying73 hi0 hz0 hz1 hz2 rfl (by decide) (.slice A m cap) m (bcells b) rfl (HO.out.alloc _) ⟨wr.heap.size, 0, none⟩ 2 2 [.int .u8 92, .int .u8 (cv : Nat)] rfl rfl (cells_new _ _ _) (by intro u hu; simp only [List.mem_cons, List.not_mem_nil, or_false] at hu; rcases hu with rfl | rfl <;> rfl) (by unfold maxLen; omega) (by omega) (by have := HB.out.size; simp; omega) ?_; intro v3 w3 ho3 hg3 _; obtain ⟨A3, c3, rfl, _⟩ := own_form ho3; have HO3 := zh ho3; have HG3 := zh hg3; clear ho3 hg3)
        go_wp2_with fail
        go_roundw
        case rel => exact ⟨k + 1, b ++ q1 ch, A3, c3, by go_num, by rw [HL.out], by omega, by rw [HTK.out, List.flatMap_append, <- List.cons_append, <- HBD.out]; simp, by rw [HL.out]; omega, by rw [HL.out, HX2.out]; exact HO3.out, (HB.out.alloc HB.out.size _).grown HG3.out (by have := HB.out.size; simp; omega) (fun g hg => (World.ownsRow.lt HO.out g hg).1)⟩
        case measure => simp [intOf]; omega
    . have H34 : Hid (¬ (ch = 34 ∨ ch = 92)) := zh (fun h => h34 (h.imp (fun h => HCV.out.trans ((HE.out 34).1 h)) (fun h => HCV.out.trans ((HE.out 92).1 h))))
      have e34 : ((cv : Int) == 34) = false := by rw [bfn]; omega
      have e92 : ((cv : Int) == 92) = false := by rw [bfn]; omega
      clear h34
      by_cases h10 : cv = 10
      . have e10 : ((cv : Int) == 10) = true := by rw [h10]; rfl
        have HQ : Hid (q1 ch = [92, 110]) := zh (by unfold q1; rw [if_neg H34.out, if_pos ((HE.out 10).2 (HCV.out.symm.trans h10))])
        have HX2 : Hid (bcells (b ++ q1 ch) = bcells b ++ [.int .u8 92, .int .u8 110]) := zh (by rw [bcells_append, HQ.out]; simp [bcells, HCV.out])
        have HL : Hid ((b ++ q1 ch).length = m + 2) := zh (by rw [lna, HQ.out, <- HM.out]; rfl)
        obtain ⟨hi0, hz0, hz1, hz2⟩ := HI.out
        go_wp2_with (at_builtin; refine wpList_append_own _ rfl (.tmp 33) (.tmp 34) 73 rfl w.heap.size 5 i0 (.int .u8 0) 1 1 underlying73 hi0 hz0 hz1 hz2 rfl (by decide) (.slice A m cap) m (bcells b) rfl (HO.out.alloc _) ⟨wr.heap.size, 0, none⟩ 2 2 [.int .u8 92, .int .u8 110] rfl rfl (cells_new _ _ _) (by intro u hu; simp only [List.mem_cons, List.not_mem_nil, or_false] at hu; rcases hu with rfl | rfl <;> rfl) (by unfold maxLen; omega) (by omega) (by have := HB.out.size; simp; omega) ?_; intro v3 w3 ho3 hg3 _; obtain ⟨A3, c3, rfl, _⟩ := own_form ho3; have HO3 := zh ho3; have HG3 := zh hg3; clear ho3 hg3)
        go_wp2_with fail
        go_roundw
        case rel => exact ⟨k + 1, b ++ q1 ch, A3, c3, by go_num, by rw [HL.out], by omega, by rw [HTK.out, List.flatMap_append, <- List.cons_append, <- HBD.out]; simp, by rw [HL.out]; omega, by rw [HL.out, HX2.out]; exact HO3.out, (HB.out.alloc HB.out.size _).grown HG3.out (by have := HB.out.size; simp; omega) (fun g hg => (World.ownsRow.lt HO.out g hg).1)⟩
        case measure => simp [intOf]; omega
      . have e10 : ((cv : Int) == 10) = false := by rw [bfn]; omega
        by_cases h32 : cv < 32
        . have e32 : decide ((cv : Int) < 32) = true := dqt (by omega)
          have e32' : decide (cv < 32) = true := dqt h32
          have H12 : Hid (q1 ch = [92, 120, hx (cv / 16), hx (cv % 16)]) := zh (by unfold q1; rw [if_neg H34.out, if_neg (fun h => h10 (HCV.out.trans ((HE.out 10).1 h))), if_pos (by rw [<- HCV.out]; omega), <- HCV.out])
          have HX2 : Hid (bcells (b ++ q1 ch) = bcells b ++ [.int .u8 92, .int .u8 120, .int .u8 ((hx (cv / 16)).toNat : Nat), .int .u8 ((hx (cv % 16)).toNat : Nat)]) := zh (by rw [bcells_append, H12.out]; rfl)
          have HL : Hid ((b ++ q1 ch).length = m + 4) := zh (by rw [lna, H12.out, <- HM.out]; rfl)
          obtain ⟨hi0, hz0, hz1, hz2⟩ := HI.out
          have HB7 : Hid (Below wr.heap.size wr (wr.drew.alloc (.cells #[.int .u8 92, .int .u8 120, .int .u8 ((hx (cv / 16)).toNat : Nat), .int .u8 ((hx (cv % 16)).toNat : Nat)] 5)) ∧ Blk (wr.drew.alloc (.cells #[.int .u8 92, .int .u8 120, .int .u8 ((hx (cv / 16)).toNat : Nat), .int .u8 ((hx (cv % 16)).toNat : Nat)] 5)) wr.heap.size 5 #[.int .u8 92, .int .u8 120, .int .u8 ((hx (cv / 16)).toNat : Nat), .int .u8 ((hx (cv % 16)).toNat : Nat)]) := zh ⟨(Below.refl _ _).drew.alloc (nlr _) _, Blk.new wr.drew _ _⟩
          have HO7 : Hid ((wr.drew.alloc (.cells #[.int .u8 92, .int .u8 120, .int .u8 ((hx (cv / 16)).toNat : Nat), .int .u8 ((hx (cv % 16)).toNat : Nat)] 5)).ownsRow w.heap.size 5 1 (.slice A m cap) m (bcells b)) := zh (own_below HO.out HB7.out.1)
          go_wp2_with fail
          refine wp_region_plan (.q 0 (.q 1 (.q 2 (.q 3 (.q 4 (.q 5 (.q 6 (.a1 7 (.a1 8 (.q 9 .fin)))))))))) 8 (fun W => True) (by kernel_rfl) rfl (by kernel_rfl) trivial ?_
          refine wpPlan_q rfl rfl rfl ?_; intro K hK
          go_big_quiet_op
          first | go_big_quiet_on | (refine ⟨_, fun _ _ => rfl, ?_⟩; go_big_quiet_on)
          refine wpPlan_q rfl rfl rfl ?_; intro K hK
          go_big_quiet_op
          first | go_big_quiet_on | (refine ⟨_, fun _ _ => rfl, ?_⟩; go_big_quiet_on)
          refine wpPlan_q rfl rfl rfl ?_; intro K hK
          go_big_quiet_op
          first | go_big_quiet_on | (refine ⟨_, fun _ _ => rfl, ?_⟩; go_big_quiet_on)
          refine wpPlan_q rfl rfl rfl ?_; intro K hK
          refine ⟨(.int .u8 ((hx (cv / 16)).toNat : Nat)), fun W hW => ?_, ?_⟩
          . have hq : cv / 16 < 16 := by omega
            have hd : (0 : Int) <= (cv : Int) / 16 ∧ (cv : Int) / 16 < 16 := by omega
            have hd1 := hd.1
            have hd2 := hd.2
            unfold Oper.quietAt Oper.quietUpon
            simp [go_sem, hd]
            exact congrArg (fun z : UInt8 => ((z.toNat : Nat) : Int)) (hex_getz (by omega) hq _)
          refine hK _ ?_
          clear hK K
          try simp only [Act.put, List.setIfInBounds_toArray, List.set_cons_succ, List.set_cons_zero]
          refine wpPlan_q rfl rfl rfl ?_; intro K hK
          go_big_quiet_op
          first | go_big_quiet_on | (refine ⟨_, fun _ _ => rfl, ?_⟩; go_big_quiet_on)
          refine wpPlan_q rfl rfl rfl ?_; intro K hK
          go_big_quiet_op
          first | go_big_quiet_on | (refine ⟨_, fun _ _ => rfl, ?_⟩; go_big_quiet_on)
          refine wpPlan_q rfl rfl rfl ?_; intro K hK
          refine ⟨(.int .u8 ((hx (cv % 16)).toNat : Nat)), fun W hW => ?_, ?_⟩
          . have hq : cv % 16 < 16 := by omega
            have hd : (0 : Int) <= (cv : Int) % 16 ∧ (cv : Int) % 16 < 16 := by omega
            have hd1 := hd.1
            have hd2 := hd.2
            unfold Oper.quietAt Oper.quietUpon
            simp [go_sem, hd]
            exact congrArg (fun z : UInt8 => ((z.toNat : Nat) : Int)) (hex_getz (by omega) hq _)
          refine hK _ ?_
          clear hK K
          try simp only [Act.put, List.setIfInBounds_toArray, List.set_cons_succ, List.set_cons_zero]
          refine wpPlan_act true rfl rfl rfl ?_; intro K hK
          go_simp
          refine hK _ _ (fun _ => trivial) ?_
          clear hK K
          try simp only [Act.put, List.setIfInBounds_toArray, List.set_cons_succ, List.set_cons_zero]
          refine wpPlan_act false rfl rfl rfl ?_; intro K hK
          refine wp_append_any _ (.tmp 43) (.tmp 50) 73 rfl w.heap.size 5 i0 (.int .u8 0) 1 1 underlying73 hi0 hz0 hz1 hz2 rfl (by decide) (.slice A m cap) m (bcells b) rfl HO7.out (wr.heap.size + 1) (some ⟨wr.heap.size, 0, none⟩) 4 4 [.int .u8 92, .int .u8 120, .int .u8 ((hx (cv / 16)).toNat : Nat), .int .u8 ((hx (cv % 16)).toNat : Nat)] rfl (reads_n HB7.out.2 rfl (Nat.lt_succ_self _)) (by intro u hu; simp only [List.mem_cons, List.not_mem_nil, or_false] at hu; rcases hu with rfl | rfl | rfl | rfl <;> rfl) (by unfold maxLen; omega) (by omega) (Nat.le_trans HB.out.size HB7.out.1.size) ?_
          intro v3 w3 ho3 hg3 _
          obtain ⟨A3, c3, rfl, _⟩ := own_form ho3
          have HO3 := zh ho3
          have HG3 := zh hg3
          clear ho3 hg3
          refine hK _ _ (fun h => by cases h) ?_
          clear hK K
          try simp only [Act.put, List.setIfInBounds_toArray, List.set_cons_succ, List.set_cons_zero]
          refine wpPlan_p rfl rfl rfl ?_; intro K hK
          go_big_quiet_op
          first | go_big_quiet_on | (refine ⟨_, fun _ _ => rfl, ?_⟩; go_big_quiet_on)
          refine wpPlan_fin ?_
          go_wp2_with fail
          go_roundw
          case rel => exact ⟨k + 1, b ++ q1 ch, A3, c3, by go_num, by rw [HL.out], by omega, by rw [HTK.out, List.flatMap_append, <- List.cons_append, <- HBD.out]; simp, by rw [HL.out]; omega, by rw [HL.out, HX2.out]; exact HO3.out, (HB.out.trans (HB7.out.1.mono HB.out.size)).grown HG3.out (Nat.le_trans HB.out.size HB7.out.1.size) (fun g hg => (World.ownsRow.lt HO.out g hg).1)⟩
          case measure => simp [intOf]; omega
        . have e32 : decide ((cv : Int) < 32) = false := dqf (by omega)
          have e32' : decide (cv < 32) = false := dqf h32
          by_cases h126 : 126 < cv
          . have e126 : decide ((cv : Int) > 126) = true := dqt (by omega)
            have e126' : decide (126 < cv) = true := dqt h126
            have H12 : Hid (q1 ch = [92, 120, hx (cv / 16), hx (cv % 16)]) := zh (by unfold q1; rw [if_neg H34.out, if_neg (fun h => h10 (HCV.out.trans ((HE.out 10).1 h))), if_pos (by rw [<- HCV.out]; omega), <- HCV.out])
            have HX2 : Hid (bcells (b ++ q1 ch) = bcells b ++ [.int .u8 92, .int .u8 120, .int .u8 ((hx (cv / 16)).toNat : Nat), .int .u8 ((hx (cv % 16)).toNat : Nat)]) := zh (by rw [bcells_append, H12.out]; rfl)
            have HL : Hid ((b ++ q1 ch).length = m + 4) := zh (by rw [lna, H12.out, <- HM.out]; rfl)
            obtain ⟨hi0, hz0, hz1, hz2⟩ := HI.out
            have HB7 : Hid (Below wr.heap.size wr (wr.drew.alloc (.cells #[.int .u8 92, .int .u8 120, .int .u8 ((hx (cv / 16)).toNat : Nat), .int .u8 ((hx (cv % 16)).toNat : Nat)] 5)) ∧ Blk (wr.drew.alloc (.cells #[.int .u8 92, .int .u8 120, .int .u8 ((hx (cv / 16)).toNat : Nat), .int .u8 ((hx (cv % 16)).toNat : Nat)] 5)) wr.heap.size 5 #[.int .u8 92, .int .u8 120, .int .u8 ((hx (cv / 16)).toNat : Nat), .int .u8 ((hx (cv % 16)).toNat : Nat)]) := zh ⟨(Below.refl _ _).drew.alloc (nlr _) _, Blk.new wr.drew _ _⟩
            have HO7 : Hid ((wr.drew.alloc (.cells #[.int .u8 92, .int .u8 120, .int .u8 ((hx (cv / 16)).toNat : Nat), .int .u8 ((hx (cv % 16)).toNat : Nat)] 5)).ownsRow w.heap.size 5 1 (.slice A m cap) m (bcells b)) := zh (own_below HO.out HB7.out.1)
            go_wp2_with fail
            refine wp_region_plan (.q 0 (.q 1 (.q 2 (.q 3 (.q 4 (.q 5 (.q 6 (.a1 7 (.a1 8 (.q 9 .fin)))))))))) 8 (fun W => True) (by kernel_rfl) rfl (by kernel_rfl) trivial ?_
            refine wpPlan_q rfl rfl rfl ?_; intro K hK
            go_big_quiet_op
            first | go_big_quiet_on | (refine ⟨_, fun _ _ => rfl, ?_⟩; go_big_quiet_on)
            refine wpPlan_q rfl rfl rfl ?_; intro K hK
            go_big_quiet_op
            first | go_big_quiet_on | (refine ⟨_, fun _ _ => rfl, ?_⟩; go_big_quiet_on)
            refine wpPlan_q rfl rfl rfl ?_; intro K hK
            go_big_quiet_op
            first | go_big_quiet_on | (refine ⟨_, fun _ _ => rfl, ?_⟩; go_big_quiet_on)
            refine wpPlan_q rfl rfl rfl ?_; intro K hK
            refine ⟨(.int .u8 ((hx (cv / 16)).toNat : Nat)), fun W hW => ?_, ?_⟩
            . have hq : cv / 16 < 16 := by omega
              have hd : (0 : Int) <= (cv : Int) / 16 ∧ (cv : Int) / 16 < 16 := by omega
              have hd1 := hd.1
              have hd2 := hd.2
              unfold Oper.quietAt Oper.quietUpon
              simp [go_sem, hd]
              exact congrArg (fun z : UInt8 => ((z.toNat : Nat) : Int)) (hex_getz (by omega) hq _)
            refine hK _ ?_
            clear hK K
            try simp only [Act.put, List.setIfInBounds_toArray, List.set_cons_succ, List.set_cons_zero]
            refine wpPlan_q rfl rfl rfl ?_; intro K hK
            go_big_quiet_op
            first | go_big_quiet_on | (refine ⟨_, fun _ _ => rfl, ?_⟩; go_big_quiet_on)
            refine wpPlan_q rfl rfl rfl ?_; intro K hK
            go_big_quiet_op
            first | go_big_quiet_on | (refine ⟨_, fun _ _ => rfl, ?_⟩; go_big_quiet_on)
            refine wpPlan_q rfl rfl rfl ?_; intro K hK
            refine ⟨(.int .u8 ((hx (cv % 16)).toNat : Nat)), fun W hW => ?_, ?_⟩
            . have hq : cv % 16 < 16 := by omega
              have hd : (0 : Int) <= (cv : Int) % 16 ∧ (cv : Int) % 16 < 16 := by omega
              have hd1 := hd.1
              have hd2 := hd.2
              unfold Oper.quietAt Oper.quietUpon
              simp [go_sem, hd]
              exact congrArg (fun z : UInt8 => ((z.toNat : Nat) : Int)) (hex_getz (by omega) hq _)
            refine hK _ ?_
            clear hK K
            try simp only [Act.put, List.setIfInBounds_toArray, List.set_cons_succ, List.set_cons_zero]
            refine wpPlan_act true rfl rfl rfl ?_; intro K hK
            go_simp
            refine hK _ _ (fun _ => trivial) ?_
            clear hK K
            try simp only [Act.put, List.setIfInBounds_toArray, List.set_cons_succ, List.set_cons_zero]
            refine wpPlan_act false rfl rfl rfl ?_; intro K hK
            refine wp_append_any _ (.tmp 43) (.tmp 50) 73 rfl w.heap.size 5 i0 (.int .u8 0) 1 1 underlying73 hi0 hz0 hz1 hz2 rfl (by decide) (.slice A m cap) m (bcells b) rfl HO7.out (wr.heap.size + 1) (some ⟨wr.heap.size, 0, none⟩) 4 4 [.int .u8 92, .int .u8 120, .int .u8 ((hx (cv / 16)).toNat : Nat), .int .u8 ((hx (cv % 16)).toNat : Nat)] rfl (reads_n HB7.out.2 rfl (Nat.lt_succ_self _)) (by intro u hu; simp only [List.mem_cons, List.not_mem_nil, or_false] at hu; rcases hu with rfl | rfl | rfl | rfl <;> rfl) (by unfold maxLen; omega) (by omega) (Nat.le_trans HB.out.size HB7.out.1.size) ?_
            intro v3 w3 ho3 hg3 _
            obtain ⟨A3, c3, rfl, _⟩ := own_form ho3
            have HO3 := zh ho3
            have HG3 := zh hg3
            clear ho3 hg3
            refine hK _ _ (fun h => by cases h) ?_
            clear hK K
            try simp only [Act.put, List.setIfInBounds_toArray, List.set_cons_succ, List.set_cons_zero]
            refine wpPlan_p rfl rfl rfl ?_; intro K hK
            go_big_quiet_op
            first | go_big_quiet_on | (refine ⟨_, fun _ _ => rfl, ?_⟩; go_big_quiet_on)
            refine wpPlan_fin ?_
            go_wp2_with fail
            go_roundw
            case rel => exact ⟨k + 1, b ++ q1 ch, A3, c3, by go_num, by rw [HL.out], by omega, by rw [HTK.out, List.flatMap_append, <- List.cons_append, <- HBD.out]; simp, by rw [HL.out]; omega, by rw [HL.out, HX2.out]; exact HO3.out, (HB.out.trans (HB7.out.1.mono HB.out.size)).grown HG3.out (Nat.le_trans HB.out.size HB7.out.1.size) (fun g hg => (World.ownsRow.lt HO.out g hg).1)⟩
            case measure => simp [intOf]; omega
          . have e126 : decide ((cv : Int) > 126) = false := dqf (by omega)
            have e126' : decide (126 < cv) = false := dqf h126
            have HQ : Hid (q1 ch = [ch]) := zh (by unfold q1; rw [if_neg H34.out, if_neg (fun h => h10 (HCV.out.trans ((HE.out 10).1 h))), if_neg (by rw [<- HCV.out]; omega)])
            have HX2 : Hid (bcells (b ++ q1 ch) = bcells b ++ [.int .u8 (cv : Nat)]) := zh (by rw [bcells_append, HQ.out]; simp [bcells, HCV.out])
            have HL : Hid ((b ++ q1 ch).length = m + 1) := zh (by rw [lna, HQ.out, <- HM.out]; rfl)
            obtain ⟨hi0, hz0, hz1, hz2⟩ := HI.out
            go_wp2_with (at_builtin; refine wpList_append_own _ rfl (.tmp 15) (.tmp 17) 73 rfl w.heap.size 5 i0 (.int .u8 0) 1 1 underlying73 hi0 hz0 hz1 hz2 rfl (by decide) (.slice A m cap) m (bcells b) rfl (HO.out.alloc _) ⟨wr.heap.size, 0, none⟩ 1 1 [.int .u8 (cv : Nat)] rfl rfl (cells_new _ _ _) (by intro u hu; simp only [List.mem_cons, List.not_mem_nil, or_false] at hu; rcases hu with rfl <;> rfl) (by unfold maxLen; omega) (by omega) (by have := HB.out.size; simp; omega) ?_; intro v3 w3 ho3 hg3 _; obtain ⟨A3, c3, rfl, _⟩ := own_form ho3; have HO3 := zh ho3; have HG3 := zh hg3; clear ho3 hg3)
            go_wp2_with fail
            go_roundw
            case rel => exact ⟨k + 1, b ++ q1 ch, A3, c3, by go_num, by rw [HL.out], by omega, by rw [HTK.out, List.flatMap_append, <- List.cons_append, <- HBD.out]; simp, by rw [HL.out]; omega, by rw [HL.out, HX2.out]; exact HO3.out, (HB.out.alloc HB.out.size _).grown HG3.out (by have := HB.out.size; simp; omega) (fun g hg => (World.ownsRow.lt HO.out g hg).1)⟩
            case measure => simp [intOf]; omega
  . have di : decide ((k : Int) < (n : Int)) = false := dqf (by omega)
    obtain ⟨hi0, hz0, hz1, hz2⟩ := HI.out
    have HF : Hid (R = b ++ [34]) := zh (by
     rw [HR0.out]
     unfold quoteL
     rw [HBD.out, List.take_of_length_le (by rw [<- HN.out]; omega)]
     rfl)
    have HX2 : Hid (bcells (b ++ [34]) = bcells b ++ [.int .u8 34]) := zh (by rw [bcells_append]; rfl)
    go_wp2_with (at_builtin; refine wpList_append_own _ rfl (.tmp 53) (.tmp 54) 73 rfl w.heap.size 5 i0 (.int .u8 0) 1 1 underlying73 hi0 hz0 hz1 hz2 rfl (by decide) (.slice A m cap) m (bcells b) rfl (HO.out.alloc _) ⟨wr.heap.size, 0, none⟩ 1 1 [.int .u8 34] rfl rfl (cells_new _ _ _) (by intro u hu; simp only [List.mem_cons, List.not_mem_nil, or_false] at hu; rcases hu with rfl <;> rfl) (by unfold maxLen; omega) (by omega) (by have := HB.out.size; simp; omega) ?_; intro v3 w3 ho3 hg3 _; obtain ⟨A3, c3, rfl, _⟩ := own_form ho3; have HO3 := zh ho3; have HG3 := zh hg3; clear ho3 hg3)
    have hstr := run_str_own (P := prog) w3 73 9 5 w.heap.size (.slice A3 (m + 1) c3) (m + 1) (b ++ [34]) underlying73 underlying5 underlying9 (by rw [lna, <- HM.out]; rfl) (by rw [HX2.out]; exact HO3.out)
    rw [hstr]
    simp only [Result.andThen]
    rw [Oper.upon_value]
    go_wp2_with fail
    go_ret
    exact ⟨by rw [HF.out]; simp, (HB.out.alloc HB.out.size _).grown HG3.out (by have := HB.out.size; simp; omega) (fun g hg => (World.ownsRow.lt HO.out g hg).1)⟩
set_option maxRecDepth 100000 in
theorem rquoted_any (s : List UInt8) (hs : s.length <= 5000) (w : World) : Calls prog 53 #[.string ⟨s.toArray⟩] w fun e w' => e = .returned (.string ⟨(quoteL s).toArray⟩) ∧ Below w.heap.size w w' := by
 obtain ⟨i0, hi0, hz0, hz1, hz2⟩ := info_parts Tryd.info5
 have HI := zh (ai hi0 (ai hz0 (ai hz1 hz2)))
 clear hi0 hz0 hz1 hz2
 obtain ⟨st, hst⟩ : ∃ st : ByteArray, st = ⟨s.toArray⟩ := ⟨_, rfl⟩
 have hsz : st.size = s.length := by rw [hst]; rfl
 obtain ⟨n, hn⟩ := ex s.length
 obtain ⟨R, hR⟩ := ex (quoteL s)
 rw [<- hst, <- hR]
 rw [<- hn] at hsz hs
 have HST := zh hst
 have HN := zh hn
 have HR0 := zh hR
 clear hst hn hR
 have HO0 : Hid ((w.alloc (.cells #[.int .u8 34] 5)).ownsRow w.heap.size 5 1 (.slice (some ⟨w.heap.size, 0, none⟩) 1 1) 1 (bcells [34]) ∧ Below w.heap.size w (w.alloc (.cells #[.int .u8 34] 5))) := zh ⟨by
  exact ⟨rfl, .inr ⟨w.heap.size, 1, #[.int .u8 34], rfl, nlr _, heap_alloc_new w _, nlr _, by unfold maxLen; omega, rfl, rfl⟩⟩, (Below.refl _ _).alloc (nlr _) _⟩
 go_in
 go_upto_region 3 with fail
 generalize w.alloc (.cells #[.int .u8 34] 5) = w0 at *
 go_wp2_with fail
 go_loopw [5, 4] (fun s9 s3 wr => ∃ (k : Nat) (b : List UInt8) (A : Option Addr) (cap : Nat), s9 = .int .i64 k ∧ s3 = .slice A b.length cap ∧ k <= n ∧ b = 34 :: (s.take k).flatMap q1 ∧ b.length <= 1 + 4 * k ∧ wr.ownsRow w.heap.size 5 1 (.slice A b.length cap) b.length (bcells b) ∧ Below w.heap.size w wr) (fun s9 _ _ => n - (intOf s9).toNat)
 case atStart => exact ⟨0, [34], some ⟨w.heap.size, 0, none⟩, 1, by go_num, rfl, by omega, by simp, by simp, HO0.out.1, HO0.out.2⟩
 case round =>
  clear HO0
  obtain ⟨k, b, A, cap, rfl, rfl, hkn, hbd, hbl, ho, hb⟩ := hrel
  have HB := zh hb
  obtain ⟨m, hm⟩ := ex b.length
  rw [<- hm] at ho hbl |-
  have HO := zh ho
  have HM := zh hm
  have HBD := zh hbd
  clear hbd hb ho hm
  by_cases hlt : k < n
  . have di : decide ((k : Int) < (n : Int)) = true := dqt (by omega)
    have hks : k < s.length := by rw [<- HN.out]; exact hlt
    obtain ⟨ch, hch⟩ : ∃ c, c = s[k] := ⟨_, rfl⟩
    have hkst : k < st.size := by omega
    have hg : st[k] = ch := by rw [hch]; exact st_get HST.out hkst hks
    have HTK : Hid (s.take (k + 1) = s.take k ++ [ch]) := zh (by rw [hch]; exact List.take_succ_eq_append_getElem hks)
    have hcl : ch.toNat < 256 := UInt8.toNat_lt _
    have HE : Hid (∀ q : UInt8, ch = q ↔ ch.toNat = q.toNat) := fun q => ⟨fun h => by rw [h], fun h => UInt8.toNat_inj.1 h⟩
    obtain ⟨cv, hcv⟩ : ∃ v, v = ch.toNat := ⟨_, rfl⟩
    have hg2 : st[k].toNat = cv := by rw [hg, hcv]
    have HCV := zh hcv
    rw [<- hcv] at hcl
    have k0 : (0 : Int) <= (k : Int) := by omega
    have k1 : (k : Int) < (n : Int) := by omega
    clear hg hcv hch hks
    by_cases h34 : cv = 34 ∨ cv = 92
    . have H34 : Hid (ch = 34 ∨ ch = 92) := zh (h34.imp (fun h => (HE.out 34).2 (HCV.out.symm.trans h)) (fun h => (HE.out 92).2 (HCV.out.symm.trans h)))
      have e10 : ((cv : Int) == 10) = false := by rw [bfn]; omega
      have e32 : decide ((cv : Int) < 32) = false := dqf (by omega)
      have e32' : decide (cv < 32) = false := dqf (by omega)
      have e126 : decide ((cv : Int) > 126) = false := dqf (by omega)
      have e126' : decide (126 < cv) = false := dqf (by omega)
      by_cases h34' : cv = 34
      . have e34 : ((cv : Int) == 34) = true := by rw [h34']; rfl
        clear h34 h34'
        have HQ : Hid (q1 ch = [92, ch]) := zh (by unfold q1; rw [if_pos H34.out])
        have HX2 : Hid (bcells (b ++ q1 ch) = bcells b ++ [.int .u8 92, .int .u8 (cv : Nat)]) := zh (by rw [bcells_append, HQ.out]; simp [bcells, HCV.out])
        have HL : Hid ((b ++ q1 ch).length = m + 2) := zh (by rw [lna, HQ.out, <- HM.out]; rfl)
        obtain ⟨hi0, hz0, hz1, hz2⟩ := HI.out
        go_wp2_with (at_builtin; refine wpList_append_own _ rfl (.tmp 45) (.tmp 47) 73 rfl w.heap.size 5 i0 (.int .u8 0) 1 1 underlying73 hi0 hz0 hz1 hz2 rfl (by decide) (.slice A m cap) m (bcells b) rfl (HO.out.alloc _) ⟨wr.heap.size, 0, none⟩ 2 2 [.int .u8 92, .int .u8 (cv : Nat)] rfl rfl (cells_new _ _ _) (by intro u hu; simp only [List.mem_cons, List.not_mem_nil, or_false] at hu; rcases hu with rfl | rfl <;> rfl) (by unfold maxLen; omega) (by omega) (by have := HB.out.size; simp; omega) ?_; intro v3 w3 ho3 hg3 _; obtain ⟨A3, c3, rfl, _⟩ := own_form ho3; have HO3 := zh ho3; have HG3 := zh hg3; clear ho3 hg3)
        go_wp2_with fail
        go_roundw
        case rel => exact ⟨k + 1, b ++ q1 ch, A3, c3, by go_num, by rw [HL.out], by omega, by rw [HTK.out, List.flatMap_append, <- List.cons_append, <- HBD.out]; simp, by rw [HL.out]; omega, by rw [HL.out, HX2.out]; exact HO3.out, (HB.out.alloc HB.out.size _).grown HG3.out (by have := HB.out.size; simp; omega) (fun g hg => (World.ownsRow.lt HO.out g hg).1)⟩
        case measure => simp [intOf]; omega
      . have e34 : ((cv : Int) == 34) = false := by rw [bfn]; omega
        have e92 : ((cv : Int) == 92) = true := by rw [h34.resolve_left h34']; rfl
        clear h34 h34'
        have HQ : Hid (q1 ch = [92, ch]) := zh (by unfold q1; rw [if_pos H34.out])
        have HX2 : Hid (bcells (b ++ q1 ch) = bcells b ++ [.int .u8 92, .int .u8 (cv : Nat)]) := zh (by rw [bcells_append, HQ.out]; simp [bcells, HCV.out])
        have HL : Hid ((b ++ q1 ch).length = m + 2) := zh (by rw [lna, HQ.out, <- HM.out]; rfl)
        obtain ⟨hi0, hz0, hz1, hz2⟩ := HI.out
        go_wp2_with (at_builtin; refine wpList_append_own _ rfl (.tmp 45) (.tmp 47) 73 rfl w.heap.size 5 i0 (.int .u8 0) 1 1 underlying73 hi0 hz0 hz1 hz2 rfl (by decide) (.slice A m cap) m (bcells b) rfl (HO.out.alloc _) ⟨wr.heap.size, 0, none⟩ 2 2 [.int .u8 92, .int .u8 (cv : Nat)] rfl rfl (cells_new _ _ _) (by intro u hu; simp only [List.mem_cons, List.not_mem_nil, or_false] at hu; rcases hu with rfl | rfl <;> rfl) (by unfold maxLen; omega) (by omega) (by have := HB.out.size; simp; omega) ?_; intro v3 w3 ho3 hg3 _; obtain ⟨A3, c3, rfl, _⟩ := own_form ho3; have HO3 := zh ho3; have HG3 := zh hg3; clear ho3 hg3)
        go_wp2_with fail
        go_roundw
        case rel => exact ⟨k + 1, b ++ q1 ch, A3, c3, by go_num, by rw [HL.out], by omega, by rw [HTK.out, List.flatMap_append, <- List.cons_append, <- HBD.out]; simp, by rw [HL.out]; omega, by rw [HL.out, HX2.out]; exact HO3.out, (HB.out.alloc HB.out.size _).grown HG3.out (by have := HB.out.size; simp; omega) (fun g hg => (World.ownsRow.lt HO.out g hg).1)⟩
        case measure => simp [intOf]; omega
    . have H34 : Hid (¬ (ch = 34 ∨ ch = 92)) := zh (fun h => h34 (h.imp (fun h => HCV.out.trans ((HE.out 34).1 h)) (fun h => HCV.out.trans ((HE.out 92).1 h))))
      have e34 : ((cv : Int) == 34) = false := by rw [bfn]; omega
      have e92 : ((cv : Int) == 92) = false := by rw [bfn]; omega
      clear h34
      by_cases h10 : cv = 10
      . have e10 : ((cv : Int) == 10) = true := by rw [h10]; rfl
        have HQ : Hid (q1 ch = [92, 110]) := zh (by unfold q1; rw [if_neg H34.out, if_pos ((HE.out 10).2 (HCV.out.symm.trans h10))])
        have HX2 : Hid (bcells (b ++ q1 ch) = bcells b ++ [.int .u8 92, .int .u8 110]) := zh (by rw [bcells_append, HQ.out]; simp [bcells, HCV.out])
        have HL : Hid ((b ++ q1 ch).length = m + 2) := zh (by rw [lna, HQ.out, <- HM.out]; rfl)
        obtain ⟨hi0, hz0, hz1, hz2⟩ := HI.out
        go_wp2_with (at_builtin; refine wpList_append_own _ rfl (.tmp 19) (.tmp 20) 73 rfl w.heap.size 5 i0 (.int .u8 0) 1 1 underlying73 hi0 hz0 hz1 hz2 rfl (by decide) (.slice A m cap) m (bcells b) rfl (HO.out.alloc _) ⟨wr.heap.size, 0, none⟩ 2 2 [.int .u8 92, .int .u8 110] rfl rfl (cells_new _ _ _) (by intro u hu; simp only [List.mem_cons, List.not_mem_nil, or_false] at hu; rcases hu with rfl | rfl <;> rfl) (by unfold maxLen; omega) (by omega) (by have := HB.out.size; simp; omega) ?_; intro v3 w3 ho3 hg3 _; obtain ⟨A3, c3, rfl, _⟩ := own_form ho3; have HO3 := zh ho3; have HG3 := zh hg3; clear ho3 hg3)
        go_wp2_with fail
        go_roundw
        case rel => exact ⟨k + 1, b ++ q1 ch, A3, c3, by go_num, by rw [HL.out], by omega, by rw [HTK.out, List.flatMap_append, <- List.cons_append, <- HBD.out]; simp, by rw [HL.out]; omega, by rw [HL.out, HX2.out]; exact HO3.out, (HB.out.alloc HB.out.size _).grown HG3.out (by have := HB.out.size; simp; omega) (fun g hg => (World.ownsRow.lt HO.out g hg).1)⟩
        case measure => simp [intOf]; omega
      . have e10 : ((cv : Int) == 10) = false := by rw [bfn]; omega
        by_cases h32 : cv < 32
        . have e32 : decide ((cv : Int) < 32) = true := dqt (by omega)
          have e32' : decide (cv < 32) = true := dqt h32
          have H12 : Hid (q1 ch = [92, 120, hx (cv / 16), hx (cv % 16)]) := zh (by unfold q1; rw [if_neg H34.out, if_neg (fun h => h10 (HCV.out.trans ((HE.out 10).1 h))), if_pos (by rw [<- HCV.out]; omega), <- HCV.out])
          have HX2 : Hid (bcells (b ++ q1 ch) = bcells b ++ [.int .u8 92, .int .u8 120, .int .u8 ((hx (cv / 16)).toNat : Nat), .int .u8 ((hx (cv % 16)).toNat : Nat)]) := zh (by rw [bcells_append, H12.out]; rfl)
          have HL : Hid ((b ++ q1 ch).length = m + 4) := zh (by rw [lna, H12.out, <- HM.out]; rfl)
          obtain ⟨hi0, hz0, hz1, hz2⟩ := HI.out
          have HB7 : Hid (Below wr.heap.size wr (wr.drew.alloc (.cells #[.int .u8 92, .int .u8 120, .int .u8 ((hx (cv / 16)).toNat : Nat), .int .u8 ((hx (cv % 16)).toNat : Nat)] 5)) ∧ Blk (wr.drew.alloc (.cells #[.int .u8 92, .int .u8 120, .int .u8 ((hx (cv / 16)).toNat : Nat), .int .u8 ((hx (cv % 16)).toNat : Nat)] 5)) wr.heap.size 5 #[.int .u8 92, .int .u8 120, .int .u8 ((hx (cv / 16)).toNat : Nat), .int .u8 ((hx (cv % 16)).toNat : Nat)]) := zh ⟨(Below.refl _ _).drew.alloc (nlr _) _, Blk.new wr.drew _ _⟩
          have HO7 : Hid ((wr.drew.alloc (.cells #[.int .u8 92, .int .u8 120, .int .u8 ((hx (cv / 16)).toNat : Nat), .int .u8 ((hx (cv % 16)).toNat : Nat)] 5)).ownsRow w.heap.size 5 1 (.slice A m cap) m (bcells b)) := zh (own_below HO.out HB7.out.1)
          go_wp2_with fail
          refine wp_region_plan (.q 0 (.q 1 (.q 2 (.q 3 (.q 4 (.q 5 (.q 6 (.q 7 (.q 8 (.a1 9 (.a1 10 (.q 11 .fin)))))))))))) 10 (fun W => True) (by kernel_rfl) rfl (by kernel_rfl) trivial ?_
          refine wpPlan_q rfl rfl rfl ?_; intro K hK
          go_big_quiet_op
          first | go_big_quiet_on | (refine ⟨_, fun _ _ => rfl, ?_⟩; go_big_quiet_on)
          refine wpPlan_q rfl rfl rfl ?_; intro K hK
          go_big_quiet_op
          first | go_big_quiet_on | (refine ⟨_, fun _ _ => rfl, ?_⟩; go_big_quiet_on)
          refine wpPlan_q rfl rfl rfl ?_; intro K hK
          go_big_quiet_op
          first | go_big_quiet_on | (refine ⟨_, fun _ _ => rfl, ?_⟩; go_big_quiet_on)
          refine wpPlan_q rfl rfl rfl ?_; intro K hK
          go_big_quiet_op
          first | go_big_quiet_on | (refine ⟨_, fun _ _ => rfl, ?_⟩; go_big_quiet_on)
          refine wpPlan_q rfl rfl rfl ?_; intro K hK
          refine ⟨(.int .u8 ((hx (cv / 16)).toNat : Nat)), fun W hW => ?_, ?_⟩
          . have hq : cv / 16 < 16 := by omega
            have hd : (0 : Int) <= (cv : Int) / 16 ∧ (cv : Int) / 16 < 16 := by omega
            have hd1 := hd.1
            have hd2 := hd.2
            unfold Oper.quietAt Oper.quietUpon
            simp [go_sem, hd]
            exact congrArg (fun z : UInt8 => ((z.toNat : Nat) : Int)) (hex_getz (by omega) hq _)
          refine hK _ ?_
          clear hK K
          try simp only [Act.put, List.setIfInBounds_toArray, List.set_cons_succ, List.set_cons_zero]
          refine wpPlan_q rfl rfl rfl ?_; intro K hK
          go_big_quiet_op
          first | go_big_quiet_on | (refine ⟨_, fun _ _ => rfl, ?_⟩; go_big_quiet_on)
          refine wpPlan_q rfl rfl rfl ?_; intro K hK
          go_big_quiet_op
          first | go_big_quiet_on | (refine ⟨_, fun _ _ => rfl, ?_⟩; go_big_quiet_on)
          refine wpPlan_q rfl rfl rfl ?_; intro K hK
          go_big_quiet_op
          first | go_big_quiet_on | (refine ⟨_, fun _ _ => rfl, ?_⟩; go_big_quiet_on)
          refine wpPlan_q rfl rfl rfl ?_; intro K hK
          refine ⟨(.int .u8 ((hx (cv % 16)).toNat : Nat)), fun W hW => ?_, ?_⟩
          . have hq : cv % 16 < 16 := by omega
            have hd : (0 : Int) <= (cv : Int) % 16 ∧ (cv : Int) % 16 < 16 := by omega
            have hd1 := hd.1
            have hd2 := hd.2
            unfold Oper.quietAt Oper.quietUpon
            simp [go_sem, hd]
            exact congrArg (fun z : UInt8 => ((z.toNat : Nat) : Int)) (hex_getz (by omega) hq _)
          refine hK _ ?_
          clear hK K
          try simp only [Act.put, List.setIfInBounds_toArray, List.set_cons_succ, List.set_cons_zero]
          refine wpPlan_act true rfl rfl rfl ?_; intro K hK
          go_simp
          refine hK _ _ (fun _ => trivial) ?_
          clear hK K
          try simp only [Act.put, List.setIfInBounds_toArray, List.set_cons_succ, List.set_cons_zero]
          refine wpPlan_act false rfl rfl rfl ?_; intro K hK
          refine wp_append_any _ (.tmp 28) (.tmp 37) 73 rfl w.heap.size 5 i0 (.int .u8 0) 1 1 underlying73 hi0 hz0 hz1 hz2 rfl (by decide) (.slice A m cap) m (bcells b) rfl HO7.out (wr.heap.size + 1) (some ⟨wr.heap.size, 0, none⟩) 4 4 [.int .u8 92, .int .u8 120, .int .u8 ((hx (cv / 16)).toNat : Nat), .int .u8 ((hx (cv % 16)).toNat : Nat)] rfl (reads_n HB7.out.2 rfl (Nat.lt_succ_self _)) (by intro u hu; simp only [List.mem_cons, List.not_mem_nil, or_false] at hu; rcases hu with rfl | rfl | rfl | rfl <;> rfl) (by unfold maxLen; omega) (by omega) (Nat.le_trans HB.out.size HB7.out.1.size) ?_
          intro v3 w3 ho3 hg3 _
          obtain ⟨A3, c3, rfl, _⟩ := own_form ho3
          have HO3 := zh ho3
          have HG3 := zh hg3
          clear ho3 hg3
          refine hK _ _ (fun h => by cases h) ?_
          clear hK K
          try simp only [Act.put, List.setIfInBounds_toArray, List.set_cons_succ, List.set_cons_zero]
          refine wpPlan_p rfl rfl rfl ?_; intro K hK
          go_big_quiet_op
          first | go_big_quiet_on | (refine ⟨_, fun _ _ => rfl, ?_⟩; go_big_quiet_on)
          refine wpPlan_fin ?_
          go_wp2_with fail
          go_roundw
          case rel => exact ⟨k + 1, b ++ q1 ch, A3, c3, by go_num, by rw [HL.out], by omega, by rw [HTK.out, List.flatMap_append, <- List.cons_append, <- HBD.out]; simp, by rw [HL.out]; omega, by rw [HL.out, HX2.out]; exact HO3.out, (HB.out.trans (HB7.out.1.mono HB.out.size)).grown HG3.out (Nat.le_trans HB.out.size HB7.out.1.size) (fun g hg => (World.ownsRow.lt HO.out g hg).1)⟩
          case measure => simp [intOf]; omega
        . have e32 : decide ((cv : Int) < 32) = false := dqf (by omega)
          have e32' : decide (cv < 32) = false := dqf h32
          by_cases h126 : 126 < cv
          . have e126 : decide ((cv : Int) > 126) = true := dqt (by omega)
            have e126' : decide (126 < cv) = true := dqt h126
            have H12 : Hid (q1 ch = [92, 120, hx (cv / 16), hx (cv % 16)]) := zh (by unfold q1; rw [if_neg H34.out, if_neg (fun h => h10 (HCV.out.trans ((HE.out 10).1 h))), if_pos (by rw [<- HCV.out]; omega), <- HCV.out])
            have HX2 : Hid (bcells (b ++ q1 ch) = bcells b ++ [.int .u8 92, .int .u8 120, .int .u8 ((hx (cv / 16)).toNat : Nat), .int .u8 ((hx (cv % 16)).toNat : Nat)]) := zh (by rw [bcells_append, H12.out]; rfl)
            have HL : Hid ((b ++ q1 ch).length = m + 4) := zh (by rw [lna, H12.out, <- HM.out]; rfl)
            obtain ⟨hi0, hz0, hz1, hz2⟩ := HI.out
            have HB7 : Hid (Below wr.heap.size wr (wr.drew.alloc (.cells #[.int .u8 92, .int .u8 120, .int .u8 ((hx (cv / 16)).toNat : Nat), .int .u8 ((hx (cv % 16)).toNat : Nat)] 5)) ∧ Blk (wr.drew.alloc (.cells #[.int .u8 92, .int .u8 120, .int .u8 ((hx (cv / 16)).toNat : Nat), .int .u8 ((hx (cv % 16)).toNat : Nat)] 5)) wr.heap.size 5 #[.int .u8 92, .int .u8 120, .int .u8 ((hx (cv / 16)).toNat : Nat), .int .u8 ((hx (cv % 16)).toNat : Nat)]) := zh ⟨(Below.refl _ _).drew.alloc (nlr _) _, Blk.new wr.drew _ _⟩
            have HO7 : Hid ((wr.drew.alloc (.cells #[.int .u8 92, .int .u8 120, .int .u8 ((hx (cv / 16)).toNat : Nat), .int .u8 ((hx (cv % 16)).toNat : Nat)] 5)).ownsRow w.heap.size 5 1 (.slice A m cap) m (bcells b)) := zh (own_below HO.out HB7.out.1)
            go_wp2_with fail
            refine wp_region_plan (.q 0 (.q 1 (.q 2 (.q 3 (.q 4 (.q 5 (.q 6 (.q 7 (.q 8 (.a1 9 (.a1 10 (.q 11 .fin)))))))))))) 10 (fun W => True) (by kernel_rfl) rfl (by kernel_rfl) trivial ?_
            refine wpPlan_q rfl rfl rfl ?_; intro K hK
            go_big_quiet_op
            first | go_big_quiet_on | (refine ⟨_, fun _ _ => rfl, ?_⟩; go_big_quiet_on)
            refine wpPlan_q rfl rfl rfl ?_; intro K hK
            go_big_quiet_op
            first | go_big_quiet_on | (refine ⟨_, fun _ _ => rfl, ?_⟩; go_big_quiet_on)
            refine wpPlan_q rfl rfl rfl ?_; intro K hK
            go_big_quiet_op
            first | go_big_quiet_on | (refine ⟨_, fun _ _ => rfl, ?_⟩; go_big_quiet_on)
            refine wpPlan_q rfl rfl rfl ?_; intro K hK
            go_big_quiet_op
            first | go_big_quiet_on | (refine ⟨_, fun _ _ => rfl, ?_⟩; go_big_quiet_on)
            refine wpPlan_q rfl rfl rfl ?_; intro K hK
            refine ⟨(.int .u8 ((hx (cv / 16)).toNat : Nat)), fun W hW => ?_, ?_⟩
            . have hq : cv / 16 < 16 := by omega
              have hd : (0 : Int) <= (cv : Int) / 16 ∧ (cv : Int) / 16 < 16 := by omega
              have hd1 := hd.1
              have hd2 := hd.2
              unfold Oper.quietAt Oper.quietUpon
              simp [go_sem, hd]
              exact congrArg (fun z : UInt8 => ((z.toNat : Nat) : Int)) (hex_getz (by omega) hq _)
            refine hK _ ?_
            clear hK K
            try simp only [Act.put, List.setIfInBounds_toArray, List.set_cons_succ, List.set_cons_zero]
            refine wpPlan_q rfl rfl rfl ?_; intro K hK
            go_big_quiet_op
            first | go_big_quiet_on | (refine ⟨_, fun _ _ => rfl, ?_⟩; go_big_quiet_on)
            refine wpPlan_q rfl rfl rfl ?_; intro K hK
            go_big_quiet_op
            first | go_big_quiet_on | (refine ⟨_, fun _ _ => rfl, ?_⟩; go_big_quiet_on)
            refine wpPlan_q rfl rfl rfl ?_; intro K hK
            go_big_quiet_op
            first | go_big_quiet_on | (refine ⟨_, fun _ _ => rfl, ?_⟩; go_big_quiet_on)
            refine wpPlan_q rfl rfl rfl ?_; intro K hK
            refine ⟨(.int .u8 ((hx (cv % 16)).toNat : Nat)), fun W hW => ?_, ?_⟩
            . have hq : cv % 16 < 16 := by omega
              have hd : (0 : Int) <= (cv : Int) % 16 ∧ (cv : Int) % 16 < 16 := by omega
              have hd1 := hd.1
              have hd2 := hd.2
              unfold Oper.quietAt Oper.quietUpon
              simp [go_sem, hd]
              exact congrArg (fun z : UInt8 => ((z.toNat : Nat) : Int)) (hex_getz (by omega) hq _)
            refine hK _ ?_
            clear hK K
            try simp only [Act.put, List.setIfInBounds_toArray, List.set_cons_succ, List.set_cons_zero]
            refine wpPlan_act true rfl rfl rfl ?_; intro K hK
            go_simp
            refine hK _ _ (fun _ => trivial) ?_
            clear hK K
            try simp only [Act.put, List.setIfInBounds_toArray, List.set_cons_succ, List.set_cons_zero]
            refine wpPlan_act false rfl rfl rfl ?_; intro K hK
            refine wp_append_any _ (.tmp 28) (.tmp 37) 73 rfl w.heap.size 5 i0 (.int .u8 0) 1 1 underlying73 hi0 hz0 hz1 hz2 rfl (by decide) (.slice A m cap) m (bcells b) rfl HO7.out (wr.heap.size + 1) (some ⟨wr.heap.size, 0, none⟩) 4 4 [.int .u8 92, .int .u8 120, .int .u8 ((hx (cv / 16)).toNat : Nat), .int .u8 ((hx (cv % 16)).toNat : Nat)] rfl (reads_n HB7.out.2 rfl (Nat.lt_succ_self _)) (by intro u hu; simp only [List.mem_cons, List.not_mem_nil, or_false] at hu; rcases hu with rfl | rfl | rfl | rfl <;> rfl) (by unfold maxLen; omega) (by omega) (Nat.le_trans HB.out.size HB7.out.1.size) ?_
            intro v3 w3 ho3 hg3 _
            obtain ⟨A3, c3, rfl, _⟩ := own_form ho3
            have HO3 := zh ho3
            have HG3 := zh hg3
            clear ho3 hg3
            refine hK _ _ (fun h => by cases h) ?_
            clear hK K
            try simp only [Act.put, List.setIfInBounds_toArray, List.set_cons_succ, List.set_cons_zero]
            refine wpPlan_p rfl rfl rfl ?_; intro K hK
            go_big_quiet_op
            first | go_big_quiet_on | (refine ⟨_, fun _ _ => rfl, ?_⟩; go_big_quiet_on)
            refine wpPlan_fin ?_
            go_wp2_with fail
            go_roundw
            case rel => exact ⟨k + 1, b ++ q1 ch, A3, c3, by go_num, by rw [HL.out], by omega, by rw [HTK.out, List.flatMap_append, <- List.cons_append, <- HBD.out]; simp, by rw [HL.out]; omega, by rw [HL.out, HX2.out]; exact HO3.out, (HB.out.trans (HB7.out.1.mono HB.out.size)).grown HG3.out (Nat.le_trans HB.out.size HB7.out.1.size) (fun g hg => (World.ownsRow.lt HO.out g hg).1)⟩
            case measure => simp [intOf]; omega
          . have e126 : decide ((cv : Int) > 126) = false := dqf (by omega)
            have e126' : decide (126 < cv) = false := dqf h126
            have HQ : Hid (q1 ch = [ch]) := zh (by unfold q1; rw [if_neg H34.out, if_neg (fun h => h10 (HCV.out.trans ((HE.out 10).1 h))), if_neg (by rw [<- HCV.out]; omega)])
            have HX2 : Hid (bcells (b ++ q1 ch) = bcells b ++ [.int .u8 (cv : Nat)]) := zh (by rw [bcells_append, HQ.out]; simp [bcells, HCV.out])
            have HL : Hid ((b ++ q1 ch).length = m + 1) := zh (by rw [lna, HQ.out, <- HM.out]; rfl)
            obtain ⟨hi0, hz0, hz1, hz2⟩ := HI.out
            go_wp2_with (at_builtin; refine wpList_append_own _ rfl (.tmp 49) (.tmp 51) 73 rfl w.heap.size 5 i0 (.int .u8 0) 1 1 underlying73 hi0 hz0 hz1 hz2 rfl (by decide) (.slice A m cap) m (bcells b) rfl (HO.out.alloc _) ⟨wr.heap.size, 0, none⟩ 1 1 [.int .u8 (cv : Nat)] rfl rfl (cells_new _ _ _) (by intro u hu; simp only [List.mem_cons, List.not_mem_nil, or_false] at hu; rcases hu with rfl <;> rfl) (by unfold maxLen; omega) (by omega) (by have := HB.out.size; simp; omega) ?_; intro v3 w3 ho3 hg3 _; obtain ⟨A3, c3, rfl, _⟩ := own_form ho3; have HO3 := zh ho3; have HG3 := zh hg3; clear ho3 hg3)
            go_wp2_with fail
            go_roundw
            case rel => exact ⟨k + 1, b ++ q1 ch, A3, c3, by go_num, by rw [HL.out], by omega, by rw [HTK.out, List.flatMap_append, <- List.cons_append, <- HBD.out]; simp, by rw [HL.out]; omega, by rw [HL.out, HX2.out]; exact HO3.out, (HB.out.alloc HB.out.size _).grown HG3.out (by have := HB.out.size; simp; omega) (fun g hg => (World.ownsRow.lt HO.out g hg).1)⟩
            case measure => simp [intOf]; omega
  . have di : decide ((k : Int) < (n : Int)) = false := dqf (by omega)
    obtain ⟨hi0, hz0, hz1, hz2⟩ := HI.out
    have HF : Hid (R = b ++ [34]) := zh (by
     rw [HR0.out]
     unfold quoteL
     rw [HBD.out, List.take_of_length_le (by rw [<- HN.out]; omega)]
     rfl)
    have HX2 : Hid (bcells (b ++ [34]) = bcells b ++ [.int .u8 34]) := zh (by rw [bcells_append]; rfl)
    go_wp2_with (at_builtin; refine wpList_append_own _ rfl (.tmp 53) (.tmp 54) 73 rfl w.heap.size 5 i0 (.int .u8 0) 1 1 underlying73 hi0 hz0 hz1 hz2 rfl (by decide) (.slice A m cap) m (bcells b) rfl (HO.out.alloc _) ⟨wr.heap.size, 0, none⟩ 1 1 [.int .u8 34] rfl rfl (cells_new _ _ _) (by intro u hu; simp only [List.mem_cons, List.not_mem_nil, or_false] at hu; rcases hu with rfl <;> rfl) (by unfold maxLen; omega) (by omega) (by have := HB.out.size; simp; omega) ?_; intro v3 w3 ho3 hg3 _; obtain ⟨A3, c3, rfl, _⟩ := own_form ho3; have HO3 := zh ho3; have HG3 := zh hg3; clear ho3 hg3)
    have hstr := run_str_own (P := prog) w3 73 9 5 w.heap.size (.slice A3 (m + 1) c3) (m + 1) (b ++ [34]) underlying73 underlying5 underlying9 (by rw [lna, <- HM.out]; rfl) (by rw [HX2.out]; exact HO3.out)
    rw [hstr]
    simp only [Result.andThen]
    rw [Oper.upon_value]
    go_wp2_with fail
    go_ret
    exact ⟨by rw [HF.out]; simp, (HB.out.alloc HB.out.size _).grown HG3.out (by have := HB.out.size; simp; omega) (fun g hg => (World.ownsRow.lt HO.out g hg).1)⟩
end Go.Proofs.YtbcadlocldplfaaDoor.T7
namespace Go.Proofs
open Go.Proofs.Tryd
open Go.Shelf
def Tryd.lays170_ren : Go.Shelf.Ren := ⟨fun | 170 => 45 | n => n, fun | 70 => 72 | 3 => 3 | 0 => 0 | 72 => 75 | 37 => 73 | 5 => 5 | n => n, fun | n => n⟩
theorem Tryd.lays170 : Go.Proofs.Lays.n170 prog Tryd.lays170_ren := {
 mixed := by kernel_rfl
 f170 := func45.trans (congrArg some (by kernel_rfl))
 t0 := underlying0
 a0 := Tryd.isAgg0
 z0 := Tryd.sizeOf0
 v0 := Tryd.zeroValue0
 t3 := underlying3
 a3 := Tryd.isAgg3
 z3 := Tryd.sizeOf3
 v3 := Tryd.zeroValue3
 t37 := underlying73
 a37 := Tryd.isAgg73
 z37 := Tryd.sizeOf73
 v37 := Tryd.zeroValue73
 t70 := underlying72
 a70 := Tryd.isAgg72
 z70 := Tryd.sizeOf72
 v70 := Tryd.zeroValue72
 t72 := underlying75
 a72 := Tryd.isAgg75
 z72 := Tryd.sizeOf75
 v72 := Tryd.zeroValue75 }
open Go.RowKit in
theorem Tryd.Builder_Len (B b : Nat) (bs : List Value) (w : World) (h : Lib.IsBuilder 75 5 B b bs w) :
 Calls prog 45 #[.pointer (some ⟨b, 0, none⟩)] w fun e w' => e = .returned (.int .i64 bs.length) ∧ w' = w := Any.Builder_Len Tryd.lays170 B b bs w h
def Tryd.lays169_ren : Go.Shelf.Ren := ⟨fun | 169 => 50 | n => n, fun | 70 => 72 | 9 => 9 | 0 => 0 | 72 => 75 | 37 => 73 | 127 => 117 | 3 => 3 | 5 => 5 | n => n, fun | n => n⟩
theorem Tryd.lays169 : Go.Proofs.Lays.n169 prog Tryd.lays169_ren := {
 mixed := by kernel_rfl
 f169 := func50.trans (congrArg some (by kernel_rfl))
 t0 := underlying0
 a0 := Tryd.isAgg0
 z0 := Tryd.sizeOf0
 v0 := Tryd.zeroValue0
 t3 := underlying3
 a3 := Tryd.isAgg3
 z3 := Tryd.sizeOf3
 v3 := Tryd.zeroValue3
 t9 := underlying9
 a9 := Tryd.isAgg9
 z9 := Tryd.sizeOf9
 v9 := Tryd.zeroValue9
 t37 := underlying73
 a37 := Tryd.isAgg73
 z37 := Tryd.sizeOf73
 v37 := Tryd.zeroValue73
 t70 := underlying72
 a70 := Tryd.isAgg72
 z70 := Tryd.sizeOf72
 v70 := Tryd.zeroValue72
 t72 := underlying75
 a72 := Tryd.isAgg75
 z72 := Tryd.sizeOf75
 v72 := Tryd.zeroValue75
 t127 := underlying117
 a127 := Tryd.isAgg117
 z127 := Tryd.sizeOf117
 v127 := Tryd.zeroValue117 }
theorem Tryd.Builder_Extra_169 : Builder.Extra prog Tryd.lays169_ren := {
 sizeBuilder := by kernel_rfl
 liesBuilder := by kernel_rfl
 t5 := underlying5
 a5 := Tryd.isAgg5
 z5 := Tryd.sizeOf5
 v5 := Tryd.zeroValue5
 infoByte := by kernel_rfl
 cellsByte := by kernel_rfl
 sizeByte := by kernel_rfl
 neB5 := by decide }
open Go.RowKit in
theorem Tryd.Builder_String_any (B b : Nat) (l : List UInt8) (w : World) (h : Lib.IsBuilder 75 5 B b (Lib.byteCells l) w) (hBw : B <= w.heap.size) :
 Calls prog 50 #[.pointer (some ⟨b, 0, none⟩)] w fun e w' => e = .returned (.string ⟨l.toArray⟩) ∧ Below B w w' := Any.Builder_String_any Tryd.lays169 Tryd.Builder_Extra_169 B b l w h hBw
def Tryd.laysM246_ren : Go.Shelf.Ren := ⟨fun | 246 => 89 | 283 => 113 | 284 => 114 | 285 => 115 | 286 => 116 | 129 => 126 | 317 => 125 | 318 => 127 | 319 => 128 | 320 => 129 | 337 => 133 | 338 => 134 | n => n, fun | 2 => 2 | 3 => 3 | 9 => 9 | 4 => 4 | 171 => 127 | 0 => 0 | 53 => 115 | 37 => 73 | 5 => 5 | 173 => 130 | 212 => 137 | 51 => 138 | 20 => 20 | 213 => 139 | 46 => 116 | 232 => 144 | 233 => 145 | n => n, fun | 17 => 1 | 18 => 2 | 19 => 3 | n => n⟩
theorem Tryd.laysM246 : Go.Proofs.LaysM.n246 prog Tryd.laysM246_ren := {
 mixed := by kernel_rfl
 f129 := func126.trans (congrArg some (by kernel_rfl))
 f246 := func89.trans (congrArg some (by kernel_rfl))
 f283 := func113.trans (congrArg some (by kernel_rfl))
 f284 := func114.trans (congrArg some (by kernel_rfl))
 f285 := func115.trans (congrArg some (by kernel_rfl))
 f286 := func116.trans (congrArg some (by kernel_rfl))
 f317 := func125.trans (congrArg some (by kernel_rfl))
 f318 := func127.trans (congrArg some (by kernel_rfl))
 f319 := func128.trans (congrArg some (by kernel_rfl))
 f320 := func129.trans (congrArg some (by kernel_rfl))
 f337 := func133.trans (congrArg some (by kernel_rfl))
 f338 := func134.trans (congrArg some (by kernel_rfl))
 t0 := underlying0
 a0 := Tryd.isAgg0
 z0 := Tryd.sizeOf0
 v0 := Tryd.zeroValue0
 t2 := underlying2
 a2 := Tryd.isAgg2
 z2 := Tryd.sizeOf2
 v2 := Tryd.zeroValue2
 t3 := underlying3
 a3 := Tryd.isAgg3
 z3 := Tryd.sizeOf3
 v3 := Tryd.zeroValue3
 t4 := underlying4
 a4 := Tryd.isAgg4
 z4 := Tryd.sizeOf4
 v4 := Tryd.zeroValue4
 t5 := underlying5
 a5 := Tryd.isAgg5
 z5 := Tryd.sizeOf5
 v5 := Tryd.zeroValue5
 t9 := underlying9
 a9 := Tryd.isAgg9
 z9 := Tryd.sizeOf9
 v9 := Tryd.zeroValue9
 t20 := underlying20
 a20 := Tryd.isAgg20
 z20 := Tryd.sizeOf20
 v20 := Tryd.zeroValue20
 t37 := underlying73
 a37 := Tryd.isAgg73
 z37 := Tryd.sizeOf73
 v37 := Tryd.zeroValue73
 t46 := underlying116
 a46 := Tryd.isAgg116
 z46 := Tryd.sizeOf116
 v46 := Tryd.zeroValue116
 t51 := underlying138
 a51 := Tryd.isAgg138
 z51 := Tryd.sizeOf138
 v51 := Tryd.zeroValue138
 t53 := underlying115
 a53 := Tryd.isAgg115
 z53 := Tryd.sizeOf115
 v53 := Tryd.zeroValue115
 t171 := underlying127
 a171 := Tryd.isAgg127
 z171 := Tryd.sizeOf127
 v171 := Tryd.zeroValue127
 t173 := underlying130
 a173 := Tryd.isAgg130
 z173 := Tryd.sizeOf130
 v173 := Tryd.zeroValue130
 t212 := underlying137
 a212 := Tryd.isAgg137
 z212 := Tryd.sizeOf137
 v212 := Tryd.zeroValue137
 t213 := underlying139
 a213 := Tryd.isAgg139
 z213 := Tryd.sizeOf139
 t232 := underlying144
 a232 := Tryd.isAgg144
 z232 := Tryd.sizeOf144
 v232 := Tryd.zeroValue144
 t233 := underlying145
 a233 := Tryd.isAgg145
 z233 := Tryd.sizeOf145
 v233 := Tryd.zeroValue145
 g17 := by kernel_rfl
 g18 := by kernel_rfl
 g19 := by kernel_rfl
 i0 := by kernel_rfl
 i2 := by kernel_rfl
 i3 := by kernel_rfl
 i4 := by kernel_rfl
 i5 := by kernel_rfl
 i9 := by kernel_rfl
 i20 := by kernel_rfl
 i37 := by kernel_rfl
 i46 := by kernel_rfl
 i51 := by kernel_rfl
 i53 := by kernel_rfl
 i171 := by kernel_rfl
 i173 := by kernel_rfl
 i212 := by kernel_rfl
 i232 := by kernel_rfl
 i233 := by kernel_rfl
 m17 := by kernel_rfl
 m18 := by kernel_rfl
 m19 := by kernel_rfl }
open Go.RowKit Go.Sort Go.Lib in
theorem Tryd.internal_strconv_FormatInt_10 (n : Int) (h0 : -9223372036854775808 <= n) (h1 : n <= 9223372036854775807) (w : World) (htab : Lib.TabIs prog w "internal/strconv.uint64pow10" .u64 Lib.pow10Tab) :
 Calls prog 89 #[.int .i64 n, .int .i64 10] w fun e w' => e = .returned (.string ⟨(Lib.itoa n).toArray⟩) ∧ ∃ k os, w' = grow (w.drewN k) os := Any.internal_strconv_FormatInt_10 Tryd.laysM246 n h0 h1 w htab
end Go.Proofs
namespace Go.Proofs.YtbcadlocldplfaaDoor.T7
open Go.Proofs.Tryd
set_option maxRecDepth 100000
open Go.RowKit
theorem info37 : (prog.info? 75).map (·.size) = some 2 := by kernel_rfl
theorem infoB : (prog.info? 5).map (fun i => (i.zero, i.size, i.bytes)) = some (some (.int .u8 0), 1, 1) := by kernel_rfl
theorem lies37 : liesAt prog prog.depth 75 (2 / prog.cellsOf 75) 0 75 1 = true := by kernel_rfl
abbrev Bd (B b : Nat) (bs : List Value) (w : World) : Prop := Lib.BuilderAt 75 5 B b (.pointer (some ⟨b, 0, none⟩)) bs w
abbrev Bl (B b : Nat) (bs : List Value) (w : World) : Prop := Lib.IsBuilder 75 5 B b bs w
def Kp (w w' : World) : Prop := ∀ k t cs, Blk w k t cs -> t ≠ 75 -> t ≠ 5 -> Blk w' k t cs
theorem Kp.refl (w : World) : Kp w w := fun _ _ _ h _ _ => h
theorem Kp.trans {a b c : World} (h : Kp a b) (k : Kp b c) : Kp a c := fun i t cs hi h1 h2 => k i t cs (h i t cs hi h1 h2) h1 h2
theorem Kp.of_chg {T : Nat -> Prop} {w w' : World} (h : Chg T w w') (hT : ∀ k, T k -> ∃ cs t, w.heap[k]? = some (.cells cs t (0, 0)) ∧ (t = 75 ∨ t = 5)) : Kp w w' := fun k t cs hk h1 h2 =>
 Blk.chg hk h (fun hTk => by
  obtain ⟨cs2, t2, e1, e2⟩ := hT k hTk
  have e3 : w.heap[k]? = some (.cells cs t (0, 0)) := hk
  rw [e1] at e3
  injection e3 with e3
  injection e3 with _ e3
  subst e3
  exact e2.elim h1 h2)
theorem Kp.of_below {w w' : World} (h : Below w.heap.size w w') : Kp w w' := fun _ _ _ hk _ _ => hk.below h hk.lt
theorem Kp.of_grown {w w' : World} {B n : Nat} {v : Value} {xs : List Value} (ho : w.ownsRow B 5 1 v n xs) (hg : w.grownBy w' v.ownBlock) : Kp w w' :=
 .of_chg (.of_grown hg (T := fun k => v.ownBlock = some k) (fun r hr => hr)) (fun k hk => by
  rcases ho.2 with ⟨rfl, _⟩ | ⟨g, cap, cur, rfl, _, hh, _⟩
  . cases hk
  . have e : g = k := by simpa [Value.ownBlock] using hk
    subst e
    exact ⟨cur, 5, hh, .inr rfl⟩)
theorem Kp.set_ {w : World} {b j : Nat} {cs : Array Value} (h : w.heap[b]? = some (.cells cs 75 (0, 0))) (u : Value) : Kp w (w.setCell ⟨b, j, none⟩ u) :=
 .of_chg (Chg.setCell (T := fun k => k = b) (Chg.refl _ _) (p := ⟨b, j, none⟩) rfl _) (fun k hk => by rw [hk]; exact ⟨cs, 75, h, .inl rfl⟩)
set_option maxRecDepth 100000 in
theorem check_any (B b : Nat) (bs : List Value) (w : World) (h : Bl B b bs w) :
 Calls prog 88 #[.pointer (some ⟨b, 0, none⟩)] w fun e w' => e = .returned (.tuple #[]) ∧ Bd B b bs w' ∧ Below B w w' ∧ Kp w w' := by
 obtain ⟨j, hj, hjs⟩ := Option.map_eq_some_iff.1 info37
 rcases h with h | h
 . have c0 := h.cell0
   have hsh := h.shape
   have hfz := h.frozen0
   have HB := zh h
   clear h
   go_in
   go_wp2_with fail
   rw [Lib.run_to_unsafe w ⟨b, 0, none⟩ underlying72 underlying124 hj (by rw [hjs]; decide) hsh (Nat.zero_lt_succ 1)]
   simp only [Result.andThen]
   rw [Oper.upon_value]
   go_wp2_with fail
   rw [run_callFunc_extern func112 (by kernel_rfl) (by kernel_rfl) (by kernel_rfl) (e := Extern.AbiNoEscape.same) (by kernel_rfl), Lib.run_noEscape]
   simp only [Result.andThen]
   rw [Oper.upon_value]
   go_wp2_with fail
   rw [Lib.run_from_unsafe w ⟨b, 0, none⟩ underlying124 underlying72 hj hsh lies37]
   simp only [Result.andThen]
   rw [Oper.upon_value]
   go_wp2_with fail
   go_end0
   exact ⟨rfl, HB.out.used _, (Below.refl B w).setCell (p := ⟨b, 0, none⟩) HB.out.1 _, by obtain ⟨_, v, hh, _⟩ := HB.out; exact Kp.set_ hh _⟩
 . have c0 := h.cell0
   have HB := zh h
   clear h
   go_in
   go_wp2_with fail
   rw [Lib.run_neq_ptr_same w _ underlying72 hj]
   go_wp2_with fail
   go_end0
   exact ⟨rfl, HB.out, Below.refl B _, Kp.refl _⟩
theorem bd_grown {b : Nat} {v : Value} {w1 w2 : World} (hbk : w1.heap[b]? = some (.cells #[.pointer (some ⟨b, 0, none⟩), v] 75 (0, 0))) (hne : v.ownBlock ≠ some b) (hg : w1.grownBy w2 v.ownBlock) (hlt : b < w1.heap.size) :
 w2.heap[b]? = some (.cells #[.pointer (some ⟨b, 0, none⟩), v] 75 (0, 0)) := by
 rw [hg.block b hlt (fun e => hne e.symm)]
 exact hbk
theorem heap_lt {w : World} {b : Nat} {o : Obj} (h : w.heap[b]? = some o) : b < w.heap.size := by
 rcases Nat.lt_or_ge b w.heap.size with h' | h'
 . exact h'
 . rw [Array.getElem?_eq_none h'] at h; cases h
set_option maxRecDepth 100000 in
theorem wbyte_any (B b : Nat) (bs : List Value) (c : Int) (w : World) (h : Bl B b bs w) (hlen : bs.length + 1 <= 140737488355328) (hBw : B <= w.heap.size) :
 Calls prog 46 #[.pointer (some ⟨b, 0, none⟩), .int .u8 c] w fun e w' => e = .returned .nilIface ∧ Bd B b (bs ++ [.int .u8 c]) w' ∧ Below B w w' ∧ Kp w w' := by
 obtain ⟨i0, hi, hz0, hz1, hz2⟩ := info_parts infoB
 have HC := zh (check_any B b bs w h)
 clear h
 go_in
 go_wp2_with fail
 refine HC.out.mono ?_
 rintro e w1 ⟨rfl, ⟨hB, v, hbk, hown, hne⟩, hb1, hkp⟩
 have HKP := zh hkp
 clear hkp
 have c1 : w1.cell? ⟨b, 1, none⟩ = some v := by rw [Lib.cell_of_heap hbk]; rfl
 have HN := zh (ai hbk (ai hne (ai hb1 hB)))
 clear hbk hne hb1 HC
 go_wp2_with (at_builtin; refine wpList_append_own _ rfl _ _ 73 rfl B 5 i0 (.int .u8 0) 1 1 underlying73 hi hz0 hz1 hz2 rfl (by decide) _ _ _ rfl (hown.alloc _) ⟨w1.heap.size, 0, none⟩ 1 1 [.int .u8 c] rfl rfl ?c1 ?c2 ?c3 ?c4 ?c5 ?_)
 case c1 =>
  intro j u hj
  match j, hj with
  | 0, hj => simp at hj; subst hj; simp [Addr.add]
 case c2 => intro u hu; simp at hu; subst hu; rfl
 case c3 => unfold maxLen; omega
 case c4 => omega
 case c5 => have := HN.out.2.2.1.size; simp; omega
 intro v' w2 hown' hgrow _
 have hlt := heap_lt HN.out.1
 have hb2 := bd_grown (b := b) (v := v) (w1 := w1.alloc (.cells #[.int .u8 c] 5)) (w2 := w2) (by rw [Lib.alloc_old w1 _ b hlt]; exact HN.out.1) HN.out.2.1 hgrow (by simp; omega)
 have d1 : w2.cell? ⟨b, 1, none⟩ = some v := by rw [Lib.cell_of_heap hb2]; rfl
 have f1 : w2.frozen? ⟨b, 1, none⟩ = false := Lib.frozen_of_heap hb2 1
 obtain ⟨g, cap, rfl⟩ : ∃ g cap, v' = .slice (some ⟨g, 0, none⟩) (bs.length + 1) cap := by
  rcases hown'.2 with ⟨_, h0⟩ | ⟨g, cap, cur, hv, _⟩
  . omega
  . exact ⟨g, cap, hv⟩
 have H2 := zh (ai hb2 (ai hown' hgrow))
 have HO := zh hown
 clear hb2 hown' hgrow c1 hown
 go_wp2_with fail
 go_ret
 refine ⟨rfl, Lib.BuilderAt.put (T := 75) (e := 5) HN.out.2.2.2 H2.out.1 (bs' := bs ++ [.int .u8 c]) (by simpa using H2.out.2.1) (by decide), ?_, (HKP.out.trans (Kp.of_below ((Below.refl _ _).alloc (nlr _) _))).trans ((Kp.of_grown (HO.out.alloc _) H2.out.2.2).trans (Kp.set_ H2.out.1 _))⟩
 exact ((HN.out.2.2.1.alloc (by have := HN.out.2.2.1.size; omega) _).grown H2.out.2.2 (by have := HN.out.2.2.1.size; simp; omega) (fun k hk => (HO.out.lt k hk).1)).setCell (p := ⟨b, 1, none⟩) HN.out.2.2.2 _
set_option maxRecDepth 100000 in
theorem wstr_any (B b : Nat) (bs : List Value) (s : ByteArray) (w : World) (h : Bl B b bs w) (hlen : bs.length + s.size <= 140737488355328) (hBw : B <= w.heap.size) :
 Calls prog 47 #[.pointer (some ⟨b, 0, none⟩), .string s] w fun e w' => e = .returned (.tuple #[.int .i64 s.size, .nilIface]) ∧ Bd B b (bs ++ Lib.strCells s) w' ∧ Below B w w' ∧ Kp w w' := by
 obtain ⟨i0, hi, hz0, hz1, hz2⟩ := info_parts infoB
 have HC := zh (check_any B b bs w h)
 clear h
 go_in
 go_wp2_with fail
 refine HC.out.mono ?_
 rintro e w1 ⟨rfl, ⟨hB, v, hbk, hown, hne⟩, hb1, hkp⟩
 have HKP := zh hkp
 clear hkp
 have c1 : w1.cell? ⟨b, 1, none⟩ = some v := by rw [Lib.cell_of_heap hbk]; rfl
 have HN := zh (ai hbk (ai hne (ai hb1 hB)))
 clear hbk hne hb1 HC
 go_wp2_with (at_builtin; refine Lib.wpList_append_own_string _ rfl _ _ 73 9 rfl B 5 i0 underlying73 underlying9 hi hz0 hz1 hz2 _ _ _ rfl hown s rfl ?c3 ?c4 ?c5 ?_)
 case c3 => unfold maxLen; omega
 case c4 => omega
 case c5 => have := HN.out.2.2.1.size; omega
 intro v' w2 hown' hgrow _
 have hb2 := bd_grown HN.out.1 HN.out.2.1 hgrow (heap_lt HN.out.1)
 have d1 : w2.cell? ⟨b, 1, none⟩ = some v := by rw [Lib.cell_of_heap hb2]; rfl
 have f1 : w2.frozen? ⟨b, 1, none⟩ = false := Lib.frozen_of_heap hb2 1
 obtain ⟨ao, n', cap, rfl⟩ : ∃ ao n' cap, v' = .slice ao n' cap := by
  rcases hown'.2 with ⟨hv, _⟩ | ⟨g, cap, cur, hv, _⟩
  . exact ⟨_, _, _, hv⟩
  . exact ⟨_, _, _, hv⟩
 have H2 := zh (ai hb2 (ai hown' hgrow))
 have HO := zh hown
 clear hb2 hown' hgrow c1 hown
 go_wp2_with fail
 go_ret2
 refine ⟨rfl, Lib.BuilderAt.put (T := 75) (e := 5) HN.out.2.2.2 H2.out.1 (bs' := bs ++ Lib.strCells s) (by simpa [Lib.strCells_length] using H2.out.2.1) (by decide), ?_, HKP.out.trans ((Kp.of_grown HO.out H2.out.2.2).trans (Kp.set_ H2.out.1 _))⟩
 exact (HN.out.2.2.1.grown H2.out.2.2 (by have := HN.out.2.2.1.size; omega) (fun k hk => (HO.out.lt k hk).1)).setCell (p := ⟨b, 1, none⟩) HN.out.2.2.2 _
set_option maxRecDepth 100000 in
theorem fmt_any (n : Int) (h0 : -9223372036854775808 <= n) (h1 : n <= 9223372036854775807) (w : World) (htab : Lib.TabIs prog w "internal/strconv.uint64pow10" .u64 Lib.pow10Tab) :
 Calls prog 48 #[.int .i64 n, .int .i64 10] w fun e w' => e = .returned (.string ⟨(Lib.itoa n).toArray⟩) ∧ ∃ k os, w' = Sort.grow (w.drewN k) os := by
 have HF := zh (Tryd.internal_strconv_FormatInt_10 n h0 h1 w htab)
 clear htab
 go_in
 go_wp2_with fail
 refine HF.out.mono ?_
 rintro e w' ⟨rfl, hw⟩
 have HW := zh hw
 clear hw
 go_wp2_with fail
 go_ret
 exact ⟨rfl, HW.out⟩
end Go.Proofs.YtbcadlocldplfaaDoor.T7
