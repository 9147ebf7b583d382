/- Contract of token.Spell. -/
import Derived.Outline
import Derived.Deep.DeepCutAuto
import Derived.Deep.MidRow
import Derived.Sort.Grow
import Derived.Test.YtlfkiaphmifelaaDoorRgt
import Derived.Test.YtlfkiaphmifelaaDoorQuo
import Derived.Test.YtlfkiaphmifelaaDoorBld
namespace Go.Proofs.YtlfkiaphmifelaaDoor
open Go.RowKit

theorem tab_below {n : String} {k : IntKind} {zs : List Int} {w w' : World} (h : Lib.TabIs Tryd.prog w n k zs) (hb : Below w.heap.size w w') : Lib.TabIs Tryd.prog w' n k zs := by
  unfold Lib.TabIs World.var? at h ⊢
  cases hg : Tryd.prog.globalNamed n with
  | none => rw [hg] at h; simp at h
  | some g =>
    rw [hg] at h
    simp only [Option.bind_some] at h ⊢
    have hlt : g < w.heap.size := by
      rcases Nat.lt_or_ge g w.heap.size with h' | h'
      · exact h'
      · rw [Array.getElem?_eq_none h'] at h; cases h
    rw [hb.block g hlt]
    exact h
theorem below_grow (w : World) (k : Nat) (os : Array Obj) : Below w.heap.size w (Sort.grow (w.drewN k) os) :=
  ⟨rfl, rfl, rfl, by rw [Sort.size_grow]; exact Nat.le_add_right _ _, fun j hj => by
    show (w.heap ++ os)[j]? = _
    rw [Array.getElem?_append_left hj]⟩
theorem bl_below {B b : Nat} {bs : List Value} {w w' : World} (h : Bl B b bs w) (hb : Below w.heap.size w w') : Bl B b bs w' := by
  have key : ∀ p, Lib.BuilderAt 37 5 B b p bs w → Lib.BuilderAt 37 5 B b p bs w' := fun p ⟨h1, v, h2, h3, h4⟩ => ⟨h1, v, (hb.block b (heap_lt h2)).trans h2, own_below h3 hb, h4⟩
  exact h.imp (key _) (key _)
theorem right_len {x : Tz} (h : rightB x = true) (h2 : x.kind ≠ 2) (h3 : x.kind ≠ 3) {s : List UInt8} (hs : x.tx = s) : s.length ≤ 24 := by
  unfold rightB at h
  rw [if_neg h2, if_neg h3, hs] at h
  split at h
  · rw [Bool.and_eq_true] at h
    have h1 := h.1
    cases s with
    | nil => simp
    | cons c r =>
      unfold wordOk at h1
      rw [Bool.and_eq_true, Bool.and_eq_true, decide_eq_true_eq] at h1
      exact h1.1.1
  · split at h
    · rw [Bool.and_eq_true, decide_eq_true_eq] at h
      have h1 := h.1
      unfold sgn17 at h1
      simp only [List.mem_cons, List.not_mem_nil, or_false] at h1
      rcases h1 with h1 | h1 | h1 | h1 | h1 | h1 | h1 | h1 | h1 | h1 | h1 | h1 | h1 | h1 | h1 | h1 | h1 <;> rw [h1] <;> simp
    · cases h
theorem dec_len : ∀ (m u : Nat), u < 10 ^ (m + 1) → (Lib.decDigits u).length ≤ m + 1
  | 0, u, h => by rw [Lib.decDigits, dif_pos (by simpa using h)]; simp
  | m + 1, u, h => by
    rw [Lib.decDigits]
    split
    · simp
    · have := dec_len m (u / 10) (by rw [Nat.pow_succ] at h; omega)
      rw [List.length_append, List.length_singleton]
      omega
theorem itoa_len {n : Int} (h0 : -9223372036854775808 ≤ n) (h1 : n ≤ 9223372036854775807) : (Lib.itoa n).length ≤ 20 := by
  unfold Lib.itoa
  split
  · have := dec_len 18 n.natAbs (by omega)
    rw [List.length_cons]; omega
  · have := dec_len 18 n.toNat (by omega)
    omega
/-- How far Spell has come. -/
def Sps (l : List Tz) (k : Nat) (lg : Bool) (acc : List UInt8) : Prop := (lg = false ∧ spF false (l.take k) = acc) ∨ (lg = true ∧ 16384 < acc.length ∧ 16384 < (spF false (l.take k)).length)
def SpellPost (w : World) (l : List Tz) (e : Ending) (w' : World) : Prop := e = .returned (.tuple #[.string ⟨(spellL l).1.toArray⟩, .int .i64 ((spellL l).2 : Nat)]) ∧ Below w.heap.size w w'
set_option maxRecDepth 100000 in
set_option maxHeartbeats 16000000 in
theorem spell_any (A : Option Addr) (c : Nat) (l : List Tz) (w : World) (hrd : RdZ w A l) (hlen : l.length ≤ 10000) (hok : ∀ x ∈ l, TzOk x) (htab : Lib.TabIs Tryd.prog w "internal/strconv.uint64pow10" .u64 Lib.pow10Tab) :
    Calls Tryd.prog 6 #[.slice A l.length c] w (SpellPost w l) := by
  obtain ⟨n, hn⟩ : ∃ n, n = l.length := ⟨_, rfl⟩
  have HH := Lib.hid (And.intro hrd (And.intro hn hok))
  have HTB := Lib.hid htab
  rw [← hn] at hlen ⊢
  clear hrd hn hok htab
  obtain ⟨b, hb⟩ : ∃ b, b = w.heap.size := ⟨_, rfl⟩
  have HG := Lib.hid hb
  have H1 : Hid (Bl w.heap.size b (Lib.byteCells []) (w.alloc (.cells #[.pointer none, .slice none 0 0] 37)) ∧ Below w.heap.size w (w.alloc (.cells #[.pointer none, .slice none 0 0] 37))) := Lib.hid ⟨.inl ⟨by omega, .slice none 0 0, by rw [hb]; exact heap_alloc_new w _, World.ownsRow_nil _ _ _ _, by simp [Value.ownBlock]⟩, (Below.refl _ _).alloc (Nat.le_refl _) _⟩
  have HHD := Lib.hid hb
  go_enter Tryd.func6, Tryd.ntmps6
  go_upto_region 2 with fail
  rw [← hb]
  clear hb
  generalize w.alloc (.cells #[.pointer none, .slice none 0 0] 37) = w1 at *
  go_wp2_with fail
  go_loopw [10, 5] (fun s10 s5 wr => ∃ (k : Nat) (lg : Bool) (acc : List UInt8), s10 = .int .i64 (k : Nat) ∧ s5 = .bool lg ∧ k ≤ n ∧ (l.take k).all rightB = true ∧ Sps l k lg acc ∧ acc.length ≤ 40000 ∧ Bl w.heap.size b (Lib.byteCells acc) wr ∧ Below w.heap.size w wr) (fun s10 _ _ => n - (intOf s10).toNat)
  case atStart => exact ⟨0, false, [], rfl, rfl, by omega, rfl, .inl ⟨rfl, rfl⟩, by simp, H1.out⟩
  case round =>
    clear H1
    obtain ⟨k, lg, acc, rfl, rfl, hk, hall, hsp, hal, hbl, hbw⟩ := hrel
    have HALL := Lib.hid hall
    have HSS := Lib.hid hsp
    have HAL0 := Lib.hid hal
    have HBL := Lib.hid (And.intro hbl hbw)
    clear hall hsp hal hbl hbw
    by_cases hlt : k < n
    · have di : decide ((k : Int) < (n : Int)) = true := decide_eq_true (by omega)
      obtain ⟨x0, hx⟩ : ∃ x, l[k]? = some x := ⟨_, List.getElem?_eq_getElem (by have := HH.out.2.1; omega)⟩
      obtain ⟨bb, off, hA, _, hcell⟩ := toks_at (HH.out.1.below HBL.out.2) hx
      subst hA
      have HOK : Hid (TzOk x0) := Lib.hid (HH.out.2.2 _ (List.mem_of_getElem? hx))
      have HTK : Hid (l.take (k + 1) = l.take k ++ [x0]) := Lib.hid (by rw [List.take_add_one, hx]; rfl)
      have HTE : Hid ((l.take k).isEmpty = decide (k = 0)) := Lib.hid (by
        have : (l.take k).length = k := by rw [List.length_take]; have := HH.out.2.1; omega
        cases hq : l.take k with
        | nil => rw [hq] at this; simp at this; simp [← this]
        | cons y r => rw [hq] at this; simp at this; simp; omega)
      have HRG : Hid (wr.rangeAt bb (off + k * 4) (zcell x0)) := Lib.hid (fun jj u hu => hcell jj u hu)
      clear hx hcell
      obtain ⟨x, hxe⟩ : ∃ x, x = x0 := ⟨_, rfl⟩
      obtain ⟨kd, st, iv, pl⟩ := x
      have HX0 : Hid (x0 = ⟨kd, st, iv, pl⟩) := Lib.hid hxe.symm
      rw [← hxe] at HRG
      clear hxe
      dsimp only [zcell] at HRG
      have HB0 : Hid (Blk (wr.alloc (.cells #[.int .u8 0, .string ⟨#[]⟩, .int .i64 0, .int .i64 0] 33)) wr.heap.size 33 #[.int .u8 0, .string ⟨#[]⟩, .int .i64 0, .int .i64 0]) := Lib.hid (Blk.new wr _ _)
      have HL4 : Hid (Below wr.heap.size wr (wr.alloc (.cells #[.int .u8 (kd : Nat), .string st, .int .i64 iv, .int .i64 pl] 33)) ∧ Blk (wr.alloc (.cells #[.int .u8 (kd : Nat), .string st, .int .i64 iv, .int .i64 pl] 33)) wr.heap.size 33 #[.int .u8 (kd : Nat), .string st, .int .i64 iv, .int .i64 pl]) := Lib.hid ⟨(Below.refl _ _).alloc (Nat.le_refl _) _, Blk.new _ _ _⟩
      have n0 : (0 : Int) ≤ (k : Int) := by omega
      have n1 : (k : Int) < (n : Int) := by omega
      go_upto_region 6 with (first | (refine wpList_load_mid rfl 33 (.tmp 13) rfl bb (off + k * 4) rfl [.int .u8 (kd : Nat), .string st, .int .i64 iv, .int .i64 pl] (.struct _) HRG.out Tryd.underlying33 rfl (by kernel_rfl) ?_) | (refine wpList_store_row rfl 33 (.tmp 7) (.tmp 14) rfl wr.heap.size #[.int .u8 (kd : Nat), .string st, .int .i64 iv, .int .i64 pl] rfl rfl 33 #[.int .u8 0, .string ⟨#[]⟩, .int .i64 0, .int .i64 0] HB0.out (by kernel_rfl) rfl (by kernel_rfl) ?_; rw [World.setRow_alloc_new]) | fail)
      obtain ⟨b7, hb7⟩ : ∃ b, b = wr.heap.size := ⟨_, rfl⟩
      have HB5 : Hid (Bl w.heap.size b (Lib.byteCells acc) (wr.alloc (.cells #[.int .u8 (kd : Nat), .string st, .int .i64 iv, .int .i64 pl] 33)) ∧ Below w.heap.size w (wr.alloc (.cells #[.int .u8 (kd : Nat), .string st, .int .i64 iv, .int .i64 pl] 33)) ∧ Blk (wr.alloc (.cells #[.int .u8 (kd : Nat), .string st, .int .i64 iv, .int .i64 pl] 33)) b7 33 #[.int .u8 (kd : Nat), .string st, .int .i64 iv, .int .i64 pl]) := Lib.hid ⟨bl_below HBL.out.1 HL4.out.1, HBL.out.2.trans (HL4.out.1.mono HBL.out.2.size), by rw [hb7]; exact HL4.out.2⟩
      rw [← hb7]
      clear HB0 HL4 HRG HBL hb7
      generalize wr.alloc (.cells #[.int .u8 (kd : Nat), .string st, .int .i64 iv, .int .i64 pl] 33) = w5 at *
      have HRT : Hid (Calls Tryd.prog 11 #[.agg #[.int .u8 (kd : Nat), .string st, .int .i64 iv, .int .i64 pl]] w5 fun e w' => e = .returned (.bool (rightB x0)) ∧ Below w5.heap.size w5 w') := Lib.hid (by
        have := right_any x0 w5 HOK.out
        rw [HX0.out] at this ⊢
        exact this)
      obtain ⟨R, hR⟩ : ∃ R, R = rightB x0 := ⟨_, rfl⟩
      have HRR := Lib.hid hR
      rw [← hR] at HRT
      clear hR
      go_wp2_with (first | (refine wpList_load_row rfl 33 (.tmp 7) rfl b7 rfl 33 #[.int .u8 (kd : Nat), .string st, .int .i64 iv, .int .i64 pl] (0, 0) _ HB5.out.2.2 Tryd.underlying33 rfl (by kernel_rfl) ?_) | fail)
      refine HRT.out.mono ?_
      rintro e w6 ⟨rfl, hb6⟩
      have HB6 : Hid (Bl w.heap.size b (Lib.byteCells acc) w6 ∧ Below w.heap.size w w6 ∧ Blk w6 b7 33 #[.int .u8 (kd : Nat), .string st, .int .i64 iv, .int .i64 pl]) := Lib.hid ⟨bl_below HB5.out.1 hb6, HB5.out.2.1.trans (hb6.mono HB5.out.2.1.size), HB5.out.2.2.below hb6 HB5.out.2.2.lt⟩
      clear hb6 HRT HB5
      cases R with
      | false =>
        have HF : Hid (spellL l = ([], 3)) := Lib.hid (by
          unfold spellL
          have : l.all rightB = false := by
            rw [List.all_eq_false]
            exact ⟨x0, List.mem_of_mem_take (i := k + 1) (by rw [HTK.out]; simp), by rw [← HRR.out]; decide⟩
          rw [this]; rfl)
        go_wp2_with fail
        go_ret2
        exact ⟨by rw [HF.out]; rfl, HB6.out.2.1⟩
      | true =>
        have HRX : Hid (rightB x0 = true) := Lib.hid HRR.out.symm
        cases lg with
        | true =>
          have HS2 : Hid (16384 < acc.length ∧ 16384 < (spF false (l.take k)).length) := Lib.hid (HSS.out.elim (fun h => by cases h.1) (fun h => h.2))
          go_wp2_with fail
          go_roundw
          case rel => exact ⟨k + 1, true, acc, by go_num, rfl, by omega, by rw [HTK.out, List.all_append, HALL.out]; simp [HRX.out], .inr ⟨rfl, HS2.out.1, by rw [HTK.out, spF_append, List.length_append]; have := HS2.out.2; omega⟩, HAL0.out, HB6.out.1, HB6.out.2.1⟩
          case measure => simp [intOf]; omega
        | false =>
          have HACC : Hid (spF false (l.take k) = acc) := Lib.hid (HSS.out.elim (fun h => h.2) (fun h => by cases h.1))
          obtain ⟨m, hm⟩ : ∃ m, m = acc.length := ⟨_, rfl⟩
          have HM := Lib.hid hm
          have HLE : Hid (Calls Tryd.prog 12 #[.pointer (some ⟨b, 0, none⟩)] w6 fun e w' => e = .returned (.int .i64 (m : Nat)) ∧ w' = w6) := Lib.hid (by
            have := Tryd.Builder_Len w.heap.size b (Lib.byteCells acc) w6 HB6.out.1
            rw [Lib.byteCells_length, ← hm] at this
            exact this)
          clear hm
          go_wp2_with fail
          refine HLE.out.mono ?_
          rintro e w7 ⟨rfl, hw7⟩
          subst hw7
          by_cases hbig : 16384 < m
          · have db : decide ((m : Int) > 16384) = true := decide_eq_true (by omega)
            have db' : decide (16384 < m) = true := decide_eq_true hbig
            go_wp2_with fail
            go_roundw
            case rel => exact ⟨k + 1, true, acc, by go_num, rfl, by omega, by rw [HTK.out, List.all_append, HALL.out]; simp [HRX.out], .inr ⟨rfl, by rw [← HM.out]; exact hbig, by rw [HTK.out, spF_append, List.length_append, HACC.out, ← HM.out]; omega⟩, HAL0.out, HB6.out.1, HB6.out.2.1⟩
            case measure => simp [intOf]; omega
          · have db : decide ((m : Int) > 16384) = false := decide_eq_false (by omega)
            have db' : decide (16384 < m) = false := decide_eq_false hbig
            have HAL1 : Hid (acc.length ≤ 16384) := Lib.hid (by rw [← HM.out]; omega)
            by_cases hk0 : k = 0
            · have dk : decide ((k : Int) > 0) = false := decide_eq_false (by omega)
              have dk' : decide (0 < k) = false := decide_eq_false (by omega)
              obtain ⟨acc2, ha2⟩ : ∃ a, a = acc := ⟨_, rfl⟩
              have HA2 : Hid (acc2 = acc ++ (if false || !(l.take k).isEmpty then [32] else [])) := Lib.hid (by rw [ha2, HTE.out, decide_eq_true hk0]; simp)
              have HAL : Hid (acc2.length ≤ 16385) := Lib.hid (by rw [ha2]; have := HAL1.out; omega)
              have HWX : Hid (Bl w.heap.size b (Lib.byteCells acc2) w7 ∧ Below w.heap.size w w7) := Lib.hid ⟨by rw [ha2]; exact HB6.out.1, HB6.out.2.1⟩
              have HTT : Hid (Blk w7 b7 33 #[.int .u8 (kd : Nat), .string st, .int .i64 iv, .int .i64 pl]) := Lib.hid HB6.out.2.2
              clear ha2 hk0
              go_upto_region 12 with fail
              generalize w7 = W at *
              have l0 : W.cell? ⟨b7, 0, none⟩ = some (.int .u8 (kd : Nat)) := HTT.out.cell 0
              by_cases hk2 : kd = 2
              · have e2 : ((kd : Int) == 2) = true := by simp [hk2]
                have l2 : W.cell? ⟨b7, 2, none⟩ = some (.int .i64 iv) := HTT.out.cell 2
                have HSP : Hid (spellT x0 = Lib.itoa iv) := Lib.hid (by unfold spellT; rw [HX0.out]; dsimp only; rw [if_pos hk2])
                have HIV : Hid (-9223372036854775808 ≤ iv ∧ iv ≤ 9223372036854775807) := Lib.hid (by have h := HOK.out.i; rw [HX0.out] at h; exact h)
                have HTL : Hid ((Lib.itoa iv).length ≤ 20) := Lib.hid (itoa_len HIV.out.1 HIV.out.2)
                have HFM := Lib.hid (fmt_any iv HIV.out.1 HIV.out.2 W (tab_below HTB.out HWX.out.2))
                clear hk2
                go_wp2_with fail
                refine HFM.out.mono ?_
                rintro e W3 ⟨rfl, kk, os, hw3⟩
                have HW3 : Hid (Below W.heap.size W W3) := Lib.hid (by rw [hw3]; exact below_grow _ _ _)
                clear hw3
                have HWX3 : Hid (Bl w.heap.size b (Lib.byteCells acc2) W3 ∧ Below w.heap.size w W3) := Lib.hid ⟨bl_below HWX.out.1 HW3.out, HWX.out.2.trans (HW3.out.mono HWX.out.2.size)⟩
                clear HWX HFM
                have HWX := HWX3
                generalize W3 = W at *
                have HWS := Lib.hid (wstr_any w.heap.size b (Lib.byteCells acc2) ⟨(Lib.itoa iv).toArray⟩ W HWX.out.1 (by rw [Lib.byteCells_length]; have := HTL.out; have := HAL.out; show _ + (Lib.itoa iv).length ≤ _; omega) HWX.out.2.size)
                go_wp2_with fail
                refine HWS.out.mono ?_
                rintro e W9 ⟨rfl, hbd9, hb9, _⟩
                have HE9 : Hid (Bl w.heap.size b (Lib.byteCells (acc2 ++ Lib.itoa iv)) W9 ∧ Below w.heap.size w W9) := Lib.hid ⟨.inr (by have := hbd9; rw [Lib.byteCells, List.map_append]; exact this), HWX.out.2.trans hb9⟩
                clear hbd9 hb9
                go_wp2_with fail
                go_roundw
                case rel => exact ⟨k + 1, false, acc2 ++ Lib.itoa iv, by go_num, rfl, by omega, by rw [HTK.out, List.all_append, HALL.out]; simp [HRX.out], .inl ⟨rfl, by rw [HTK.out, spF_append, HACC.out, HA2.out, HSP.out]; simp [HTE.out]⟩, by rw [List.length_append]; have := HTL.out; have := HAL.out; omega, HE9.out⟩
                case measure => simp [intOf]; omega
              · have e2 : ((kd : Int) == 2) = false := by simp; omega
                by_cases hk3 : kd = 3
                · have e3 : ((kd : Int) == 3) = true := by simp [hk3]
                  have l1 : W.cell? ⟨b7, 1, none⟩ = some (.string st) := HTT.out.cell 1
                  have HSP : Hid (spellT x0 = quoteL st.data.toList) := Lib.hid (by unfold spellT Tz.tx; rw [HX0.out]; dsimp only; rw [if_neg (by omega), if_pos hk3])
                  have HTX : Hid (st.data.toList.length ≤ 4095) := Lib.hid (by
                    have h := HRX.out
                    unfold rightB Tz.tx at h
                    rw [HX0.out] at h
                    dsimp only at h
                    rw [if_neg (by omega), if_neg (by omega), if_pos hk3, Bool.and_eq_true, decide_eq_true_eq] at h
                    exact h.1)
                  have HTL : Hid ((quoteL st.data.toList).length ≤ 16382) := Lib.hid (by have := quote_len st.data.toList; have := HTX.out; omega)
                  have HQU : Hid (Calls Tryd.prog 16 #[.string st] W fun e w' => e = .returned (.string ⟨(quoteL st.data.toList).toArray⟩) ∧ Below W.heap.size W w') := Lib.hid (by
                    have := quoted_any st.data.toList (by have := HTX.out; omega) W
                    simpa using this)
                  clear hk3
                  go_wp2_with fail
                  refine HQU.out.mono ?_
                  rintro e W3 ⟨rfl, hw3⟩
                  have HW3 := Lib.hid hw3
                  clear hw3
                  have HWX3 : Hid (Bl w.heap.size b (Lib.byteCells acc2) W3 ∧ Below w.heap.size w W3) := Lib.hid ⟨bl_below HWX.out.1 HW3.out, HWX.out.2.trans (HW3.out.mono HWX.out.2.size)⟩
                  clear HWX HQU
                  have HWX := HWX3
                  generalize W3 = W at *
                  have HWS := Lib.hid (wstr_any w.heap.size b (Lib.byteCells acc2) ⟨(quoteL st.data.toList).toArray⟩ W HWX.out.1 (by rw [Lib.byteCells_length]; have := HTL.out; have := HAL.out; show _ + (quoteL st.data.toList).length ≤ _; omega) HWX.out.2.size)
                  go_wp2_with fail
                  refine HWS.out.mono ?_
                  rintro e W9 ⟨rfl, hbd9, hb9, _⟩
                  have HE9 : Hid (Bl w.heap.size b (Lib.byteCells (acc2 ++ quoteL st.data.toList)) W9 ∧ Below w.heap.size w W9) := Lib.hid ⟨.inr (by have := hbd9; rw [Lib.byteCells, List.map_append]; exact this), HWX.out.2.trans hb9⟩
                  clear hbd9 hb9
                  go_wp2_with fail
                  go_roundw
                  case rel => exact ⟨k + 1, false, acc2 ++ quoteL st.data.toList, by go_num, rfl, by omega, by rw [HTK.out, List.all_append, HALL.out]; simp [HRX.out], .inl ⟨rfl, by rw [HTK.out, spF_append, HACC.out, HA2.out, HSP.out]; simp [HTE.out]⟩, by rw [List.length_append]; have := HTL.out; have := HAL.out; omega, HE9.out⟩
                  case measure => simp [intOf]; omega
                · have e3 : ((kd : Int) == 3) = false := by simp; omega
                  have l1 : W.cell? ⟨b7, 1, none⟩ = some (.string st) := HTT.out.cell 1
                  have HSP : Hid (spellT x0 = st.data.toList) := Lib.hid (by unfold spellT Tz.tx; rw [HX0.out]; dsimp only; rw [if_neg hk2, if_neg hk3])
                  have HTL : Hid (st.data.toList.length ≤ 24) := Lib.hid (right_len HRX.out (by rw [HX0.out]; exact hk2) (by rw [HX0.out]; exact hk3) (by rw [HX0.out]; rfl))
                  have HWS := Lib.hid (wstr_any w.heap.size b (Lib.byteCells acc2) st W HWX.out.1 (by rw [Lib.byteCells_length]; have := HTL.out; have := HAL.out; show _ + st.data.size ≤ _; rw [← Array.length_toList]; omega) HWX.out.2.size)
                  go_wp2_with fail
                  refine HWS.out.mono ?_
                  rintro e W9 ⟨rfl, hbd9, hb9, _⟩
                  have HE9 : Hid (Bl w.heap.size b (Lib.byteCells (acc2 ++ st.data.toList)) W9 ∧ Below w.heap.size w W9) := Lib.hid ⟨.inr (by have := hbd9; rw [Lib.byteCells, List.map_append]; exact this), HWX.out.2.trans hb9⟩
                  clear hbd9 hb9
                  go_wp2_with fail
                  go_roundw
                  case rel => exact ⟨k + 1, false, acc2 ++ st.data.toList, by go_num, rfl, by omega, by rw [HTK.out, List.all_append, HALL.out]; simp [HRX.out], .inl ⟨rfl, by rw [HTK.out, spF_append, HACC.out, HA2.out, HSP.out]; simp [HTE.out]⟩, by rw [List.length_append]; have := HTL.out; have := HAL.out; omega, HE9.out⟩
                  case measure => simp [intOf]; omega
            · have dk : decide ((k : Int) > 0) = true := decide_eq_true (by omega)
              have dk' : decide (0 < k) = true := decide_eq_true (by omega)
              have HWB := Lib.hid (wbyte_any w.heap.size b (Lib.byteCells acc) 32 w7 HB6.out.1 (by rw [Lib.byteCells_length]; have := HAL1.out; omega) HB6.out.2.1.size)
              go_wp2_with fail
              refine HWB.out.mono ?_
              rintro e W ⟨rfl, hbd8, hb8, hkp8⟩
              obtain ⟨acc2, ha2⟩ : ∃ a, a = acc ++ [32] := ⟨_, rfl⟩
              have HA2 : Hid (acc2 = acc ++ (if false || !(l.take k).isEmpty then [32] else [])) := Lib.hid (by rw [ha2, HTE.out, decide_eq_false hk0]; simp)
              have HAL : Hid (acc2.length ≤ 16385) := Lib.hid (by rw [ha2, List.length_append]; have := HAL1.out; simp; omega)
              have HWX : Hid (Bl w.heap.size b (Lib.byteCells acc2) W ∧ Below w.heap.size w W) := Lib.hid ⟨.inr (by rw [ha2, Lib.byteCells, List.map_append]; exact hbd8), HB6.out.2.1.trans hb8⟩
              have HTT : Hid (Blk W b7 33 #[.int .u8 (kd : Nat), .string st, .int .i64 iv, .int .i64 pl]) := Lib.hid (hkp8 _ _ _ HB6.out.2.2 (by decide) (by decide))
              clear ha2 hk0 hbd8 hb8 hkp8 HWB
              have l0 : W.cell? ⟨b7, 0, none⟩ = some (.int .u8 (kd : Nat)) := HTT.out.cell 0
              by_cases hk2 : kd = 2
              · have e2 : ((kd : Int) == 2) = true := by simp [hk2]
                have l2 : W.cell? ⟨b7, 2, none⟩ = some (.int .i64 iv) := HTT.out.cell 2
                have HSP : Hid (spellT x0 = Lib.itoa iv) := Lib.hid (by unfold spellT; rw [HX0.out]; dsimp only; rw [if_pos hk2])
                have HIV : Hid (-9223372036854775808 ≤ iv ∧ iv ≤ 9223372036854775807) := Lib.hid (by have h := HOK.out.i; rw [HX0.out] at h; exact h)
                have HTL : Hid ((Lib.itoa iv).length ≤ 20) := Lib.hid (itoa_len HIV.out.1 HIV.out.2)
                have HFM := Lib.hid (fmt_any iv HIV.out.1 HIV.out.2 W (tab_below HTB.out HWX.out.2))
                clear hk2
                go_wp2_with fail
                refine HFM.out.mono ?_
                rintro e W3 ⟨rfl, kk, os, hw3⟩
                have HW3 : Hid (Below W.heap.size W W3) := Lib.hid (by rw [hw3]; exact below_grow _ _ _)
                clear hw3
                have HWX3 : Hid (Bl w.heap.size b (Lib.byteCells acc2) W3 ∧ Below w.heap.size w W3) := Lib.hid ⟨bl_below HWX.out.1 HW3.out, HWX.out.2.trans (HW3.out.mono HWX.out.2.size)⟩
                clear HWX HFM
                have HWX := HWX3
                generalize W3 = W at *
                have HWS := Lib.hid (wstr_any w.heap.size b (Lib.byteCells acc2) ⟨(Lib.itoa iv).toArray⟩ W HWX.out.1 (by rw [Lib.byteCells_length]; have := HTL.out; have := HAL.out; show _ + (Lib.itoa iv).length ≤ _; omega) HWX.out.2.size)
                go_wp2_with fail
                refine HWS.out.mono ?_
                rintro e W9 ⟨rfl, hbd9, hb9, _⟩
                have HE9 : Hid (Bl w.heap.size b (Lib.byteCells (acc2 ++ Lib.itoa iv)) W9 ∧ Below w.heap.size w W9) := Lib.hid ⟨.inr (by have := hbd9; rw [Lib.byteCells, List.map_append]; exact this), HWX.out.2.trans hb9⟩
                clear hbd9 hb9
                go_wp2_with fail
                go_roundw
                case rel => exact ⟨k + 1, false, acc2 ++ Lib.itoa iv, by go_num, rfl, by omega, by rw [HTK.out, List.all_append, HALL.out]; simp [HRX.out], .inl ⟨rfl, by rw [HTK.out, spF_append, HACC.out, HA2.out, HSP.out]; simp [HTE.out]⟩, by rw [List.length_append]; have := HTL.out; have := HAL.out; omega, HE9.out⟩
                case measure => simp [intOf]; omega
              · have e2 : ((kd : Int) == 2) = false := by simp; omega
                by_cases hk3 : kd = 3
                · have e3 : ((kd : Int) == 3) = true := by simp [hk3]
                  have l1 : W.cell? ⟨b7, 1, none⟩ = some (.string st) := HTT.out.cell 1
                  have HSP : Hid (spellT x0 = quoteL st.data.toList) := Lib.hid (by unfold spellT Tz.tx; rw [HX0.out]; dsimp only; rw [if_neg (by omega), if_pos hk3])
                  have HTX : Hid (st.data.toList.length ≤ 4095) := Lib.hid (by
                    have h := HRX.out
                    unfold rightB Tz.tx at h
                    rw [HX0.out] at h
                    dsimp only at h
                    rw [if_neg (by omega), if_neg (by omega), if_pos hk3, Bool.and_eq_true, decide_eq_true_eq] at h
                    exact h.1)
                  have HTL : Hid ((quoteL st.data.toList).length ≤ 16382) := Lib.hid (by have := quote_len st.data.toList; have := HTX.out; omega)
                  have HQU : Hid (Calls Tryd.prog 16 #[.string st] W fun e w' => e = .returned (.string ⟨(quoteL st.data.toList).toArray⟩) ∧ Below W.heap.size W w') := Lib.hid (by
                    have := quoted_any st.data.toList (by have := HTX.out; omega) W
                    simpa using this)
                  clear hk3
                  go_wp2_with fail
                  refine HQU.out.mono ?_
                  rintro e W3 ⟨rfl, hw3⟩
                  have HW3 := Lib.hid hw3
                  clear hw3
                  have HWX3 : Hid (Bl w.heap.size b (Lib.byteCells acc2) W3 ∧ Below w.heap.size w W3) := Lib.hid ⟨bl_below HWX.out.1 HW3.out, HWX.out.2.trans (HW3.out.mono HWX.out.2.size)⟩
                  clear HWX HQU
                  have HWX := HWX3
                  generalize W3 = W at *
                  have HWS := Lib.hid (wstr_any w.heap.size b (Lib.byteCells acc2) ⟨(quoteL st.data.toList).toArray⟩ W HWX.out.1 (by rw [Lib.byteCells_length]; have := HTL.out; have := HAL.out; show _ + (quoteL st.data.toList).length ≤ _; omega) HWX.out.2.size)
                  go_wp2_with fail
                  refine HWS.out.mono ?_
                  rintro e W9 ⟨rfl, hbd9, hb9, _⟩
                  have HE9 : Hid (Bl w.heap.size b (Lib.byteCells (acc2 ++ quoteL st.data.toList)) W9 ∧ Below w.heap.size w W9) := Lib.hid ⟨.inr (by have := hbd9; rw [Lib.byteCells, List.map_append]; exact this), HWX.out.2.trans hb9⟩
                  clear hbd9 hb9
                  go_wp2_with fail
                  go_roundw
                  case rel => exact ⟨k + 1, false, acc2 ++ quoteL st.data.toList, by go_num, rfl, by omega, by rw [HTK.out, List.all_append, HALL.out]; simp [HRX.out], .inl ⟨rfl, by rw [HTK.out, spF_append, HACC.out, HA2.out, HSP.out]; simp [HTE.out]⟩, by rw [List.length_append]; have := HTL.out; have := HAL.out; omega, HE9.out⟩
                  case measure => simp [intOf]; omega
                · have e3 : ((kd : Int) == 3) = false := by simp; omega
                  have l1 : W.cell? ⟨b7, 1, none⟩ = some (.string st) := HTT.out.cell 1
                  have HSP : Hid (spellT x0 = st.data.toList) := Lib.hid (by unfold spellT Tz.tx; rw [HX0.out]; dsimp only; rw [if_neg hk2, if_neg hk3])
                  have HTL : Hid (st.data.toList.length ≤ 24) := Lib.hid (right_len HRX.out (by rw [HX0.out]; exact hk2) (by rw [HX0.out]; exact hk3) (by rw [HX0.out]; rfl))
                  have HWS := Lib.hid (wstr_any w.heap.size b (Lib.byteCells acc2) st W HWX.out.1 (by rw [Lib.byteCells_length]; have := HTL.out; have := HAL.out; show _ + st.data.size ≤ _; rw [← Array.length_toList]; omega) HWX.out.2.size)
                  go_wp2_with fail
                  refine HWS.out.mono ?_
                  rintro e W9 ⟨rfl, hbd9, hb9, _⟩
                  have HE9 : Hid (Bl w.heap.size b (Lib.byteCells (acc2 ++ st.data.toList)) W9 ∧ Below w.heap.size w W9) := Lib.hid ⟨.inr (by have := hbd9; rw [Lib.byteCells, List.map_append]; exact this), HWX.out.2.trans hb9⟩
                  clear hbd9 hb9
                  go_wp2_with fail
                  go_roundw
                  case rel => exact ⟨k + 1, false, acc2 ++ st.data.toList, by go_num, rfl, by omega, by rw [HTK.out, List.all_append, HALL.out]; simp [HRX.out], .inl ⟨rfl, by rw [HTK.out, spF_append, HACC.out, HA2.out, HSP.out]; simp [HTE.out]⟩, by rw [List.length_append]; have := HTL.out; have := HAL.out; omega, HE9.out⟩
                  case measure => simp [intOf]; omega
    · have di : decide ((k : Int) < (n : Int)) = false := decide_eq_false (by omega)
      have hkn : k = n := by omega
      have HTF : Hid (l.take k = l) := Lib.hid (List.take_of_length_le (by rw [← HH.out.2.1]; omega))
      have HALR : Hid (l.all rightB = true) := Lib.hid (by rw [← HTF.out]; exact HALL.out)
      obtain ⟨m, hm⟩ : ∃ m, m = acc.length := ⟨_, rfl⟩
      have HM := Lib.hid hm
      have HLE : Hid (Calls Tryd.prog 12 #[.pointer (some ⟨b, 0, none⟩)] wr fun e w' => e = .returned (.int .i64 (m : Nat)) ∧ w' = wr) := Lib.hid (by
        have := Tryd.Builder_Len w.heap.size b (Lib.byteCells acc) wr HBL.out.1
        rw [Lib.byteCells_length, ← hm] at this
        exact this)
      clear hm hkn
      go_wp2_with fail
      refine HLE.out.mono ?_
      rintro e w7 ⟨rfl, hw7⟩
      subst hw7
      by_cases hbig : 16384 < m
      · have db : decide ((m : Int) > 16384) = true := decide_eq_true (by omega)
        have db' : decide (16384 < m) = true := decide_eq_true hbig
        have HF : Hid (spellL l = ([], 2)) := Lib.hid (by
          unfold spellL
          rw [HALR.out, if_pos rfl, if_pos]
          have h := HSS.out
          unfold Sps at h
          rw [HTF.out] at h
          rcases h with ⟨_, h⟩ | ⟨_, _, h⟩
          · rw [h, ← HM.out]; exact hbig
          · exact h)
        go_wp2_with fail
        go_ret2
        exact ⟨by rw [HF.out]; rfl, HBL.out.2⟩
      · have db : decide ((m : Int) > 16384) = false := decide_eq_false (by omega)
        have db' : decide (16384 < m) = false := decide_eq_false hbig
        have HF : Hid (spellL l = (acc, 0)) := Lib.hid (by
          have h := HSS.out
          unfold Sps at h
          rw [HTF.out] at h
          rcases h with ⟨_, h⟩ | ⟨_, h, _⟩
          · unfold spellL
            rw [HALR.out, if_pos rfl, h, if_neg (by rw [← HM.out]; exact hbig)]
          · rw [← HM.out] at h; exact absurd h hbig)
        have HST := Lib.hid (Tryd.Builder_String_any w.heap.size b acc w7 HBL.out.1 HBL.out.2.size)
        go_wp2_with fail
        refine HST.out.mono ?_
        rintro e w8 ⟨rfl, hb8⟩
        have HB8 := Lib.hid (HBL.out.2.trans hb8)
        clear hb8
        go_wp2_with fail
        go_ret2
        exact ⟨by rw [HF.out]; rfl, HB8.out⟩
end Go.Proofs.YtlfkiaphmifelaaDoor
