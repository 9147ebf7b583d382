/- Contract of token.Spell. And what follows from it. -/
import Derived.Outline
import Derived.Deep.DeepCutAuto
import Derived.Deep.MidRow
import Derived.Sort.Grow
import Derived.Laws.CopyOwn
import Derived.Shelf.Strconv.Itoa3
import Derived.Test.YtbcadlocldplfaaDoorQta
import Derived.Test.YtbcadlocldplfaaDoorQtc
import Derived.Test.YtbcadlocldplfaaDoorQti
import Derived.Test.YtbcadlocldplfaaDoorQt0
set_option maxHeartbeats 16000000
set_option linter.unusedSimpArgs false
set_option linter.unusedVariables false
namespace Go.Proofs.YtbcadlocldplfaaDoor.T7
open Go.Proofs.Tryd
set_option maxRecDepth 100000
open Go.RowKit
theorem tab_below {n : String} {k : IntKind} {zs : List Int} {w w' : World} (h : Lib.TabIs prog w n k zs) (hb : Below w.heap.size w w') : Lib.TabIs prog w' n k zs := by
 unfold Lib.TabIs World.var? at h |-
 cases hg : prog.globalNamed n with
 | none => rw [hg] at h; simp at h
 | some g =>
  rw [hg] at h
  simp only [Option.bind_some] at h |-
  have hlt : g < w.heap.size := by
   rcases Nat.lt_or_ge g w.heap.size with h' | h'
   . exact h'
   . rw [Array.getElem?_eq_none h'] at h; cases h
  rw [hb.block g hlt]
  exact h
theorem below_grow (w : World) (k : Nat) (os : Array Obj) : Below w.heap.size w (Sort.grow (w.drewN k) os) :=
 ⟨rfl, rfl, rfl, by rw [Sort.size_grow]; exact Nat.le_add_right _ _, fun j hj => by
  show (w.heap ++ os)[j]? = _
  rw [Array.getElem?_append_left hj]⟩
theorem bl_below {B b : Nat} {bs : List Value} {w w' : World} (h : Bl B b bs w) (hb : Below w.heap.size w w') : Bl B b bs w' := by
 have key : ∀ p, Lib.BuilderAt 75 5 B b p bs w -> Lib.BuilderAt 75 5 B b p bs w' := fun p ⟨h1, v, h2, h3, h4⟩ => ⟨h1, v, (hb.block b (heap_lt h2)).trans h2, own_below h3 hb, h4⟩
 exact h.imp (key _) (key _)
theorem right_len {x : Tz} (h : rightB x = true) (h2 : x.kind ≠ 2) (h3 : x.kind ≠ 3) {s : List UInt8} (hs : x.tx = s) : s.length <= 24 := by
 unfold rightB at h
 rw [if_neg h2, if_neg h3, hs] at h
 split at h
 . rw [Bool.and_eq_true] at h
   have h1 := h.1
   cases s with
   | nil => simp
   | cons c r =>
    unfold wordOk at h1
    rw [Bool.and_eq_true, Bool.and_eq_true, decide_eq_true_eq] at h1
    exact h1.1.1
 . split at h
   . rw [Bool.and_eq_true, decide_eq_true_eq] at h
     have h1 := h.1
     unfold sgn17 at h1
     simp only [List.mem_cons, List.not_mem_nil, or_false] at h1
     rcases h1 with h1 | h1 | h1 | h1 | h1 | h1 | h1 | h1 | h1 | h1 | h1 | h1 | h1 | h1 | h1 | h1 | h1 <;> rw [h1] <;> simp
   . cases h
theorem dec_len : ∀ (m u : Nat), u < 10 ^ (m + 1) -> (Lib.decDigits u).length <= m + 1
 | 0, u, h => by rw [Lib.decDigits, dif_pos (by simpa using h)]; simp
 | m + 1, u, h => by
  rw [Lib.decDigits]
  split
  . simp
  . have := dec_len m (u / 10) (by rw [Nat.pow_succ] at h; omega)
    rw [lna, List.length_singleton]
    omega
theorem itoa_len {n : Int} (h0 : -9223372036854775808 <= n) (h1 : n <= 9223372036854775807) : (Lib.itoa n).length <= 20 := by
 unfold Lib.itoa
 split
 . have := dec_len 18 n.natAbs (by omega)
   rw [lnc]; omega
 . have := dec_len 18 n.toNat (by omega)
   omega
def Sps (l : List Tz) (k : Nat) (lg : Bool) (acc : List UInt8) : Prop := (lg = false ∧ spF false (l.take k) = acc) ∨ (lg = true ∧ 16384 < acc.length ∧ 16384 < (spF false (l.take k)).length)
def SpellPost (w : World) (l : List Tz) (e : Ending) (w' : World) : Prop := e = .returned (.tuple #[.string ⟨(spellL l).1.toArray⟩, .int .i64 ((spellL l).2 : Nat)]) ∧ Below w.heap.size w w'
set_option maxRecDepth 100000 in
theorem spell_any (A : Option Addr) (c : Nat) (l : List Tz) (w : World) (hrd : RdZ w A l) (hlen : l.length <= 1000000) (hok : ∀ x ∈ l, TzOk x) (htab : Lib.TabIs prog w "internal/strconv.uint64pow10" .u64 Lib.pow10Tab) :
 Calls prog 21 #[.slice A l.length c] w (SpellPost w l) := by
 obtain ⟨n, hn⟩ := ex l.length
 have HH := zh (ai hrd (ai hn hok))
 have HTB := zh htab
 rw [<- hn] at hlen |-
 clear hrd hn hok htab
 obtain ⟨b, hb⟩ := ex w.heap.size
 have HG := zh hb
 have H1 : Hid (Bl w.heap.size b (Lib.byteCells []) (w.alloc (.cells #[.pointer none, .slice none 0 0] 75)) ∧ Below w.heap.size w (w.alloc (.cells #[.pointer none, .slice none 0 0] 75))) := zh ⟨.inl ⟨by omega, .slice none 0 0, by rw [hb]; exact heap_alloc_new w _, World.ownsRow_nil _ _ _ _, by simp [Value.ownBlock]⟩, (Below.refl _ _).alloc (nlr _) _⟩
 have HHD := zh hb
 go_in
 go_upto_region 2 with fail
 rw [<- hb]
 clear hb
 generalize w.alloc (.cells #[.pointer none, .slice none 0 0] 75) = w1 at *
 go_wp2_with fail
 go_loopw [10, 5] (fun s10 s5 wr => ∃ (k : Nat) (lg : Bool) (acc : List UInt8), s10 = .int .i64 (k : Nat) ∧ s5 = .bool lg ∧ k <= n ∧ (l.take k).all rightB = true ∧ Sps l k lg acc ∧ acc.length <= 40000 ∧ Bl w.heap.size b (Lib.byteCells acc) wr ∧ Below w.heap.size w wr) (fun s10 _ _ => n - (intOf s10).toNat)
 case atStart => exact ⟨0, false, [], rfl, rfl, by omega, rfl, .inl ⟨rfl, rfl⟩, by simp, H1.out⟩
 case round =>
  clear H1
  obtain ⟨k, lg, acc, rfl, rfl, hk, hall, hsp, hal, hbl, hbw⟩ := hrel
  have HALL := zh hall
  have HSS := zh hsp
  have HAL0 := zh hal
  have HBL := zh (ai hbl hbw)
  clear hall hsp hal hbl hbw
  by_cases hlt : k < n
  . have di : decide ((k : Int) < (n : Int)) = true := dqt (by omega)
    obtain ⟨x0, hx⟩ : ∃ x, l[k]? = some x := ⟨_, List.getElem?_eq_getElem (by have := HH.out.2.1; omega)⟩
    obtain ⟨bb, off, hA, _, hcell⟩ := toks_at (HH.out.1.below HBL.out.2) hx
    subst hA
    have HOK : Hid (TzOk x0) := zh (HH.out.2.2 _ (List.mem_of_getElem? hx))
    have HTK : Hid (l.take (k + 1) = l.take k ++ [x0]) := zh (by rw [List.take_add_one, hx]; rfl)
    have HTE : Hid ((l.take k).isEmpty = decide (k = 0)) := zh (by
     have : (l.take k).length = k := by rw [List.length_take]; have := HH.out.2.1; omega
     cases hq : l.take k with
     | nil => rw [hq] at this; simp at this; simp [<- this]
     | cons y r => rw [hq] at this; simp at this; simp; omega)
    have HRG : Hid (wr.rangeAt bb (off + k * 4) (zcell x0)) := zh (fun jj u hu => hcell jj u hu)
    clear hx hcell
    obtain ⟨x, hxe⟩ := ex x0
    obtain ⟨kd, st, iv, pl⟩ := x
    have HX0 : Hid (x0 = ⟨kd, st, iv, pl⟩) := zh hxe.symm
    rw [<- hxe] at HRG
    clear hxe
    dsimp only [zcell] at HRG
    have HB0 := zh (Blk.new wr 35 #[.int .u8 0, .string ⟨#[]⟩, .int .i64 0, .int .i64 0])
    have HL4 : Hid (Below wr.heap.size wr (wr.alloc (.cells #[.int .u8 (kd : Nat), .string st, .int .i64 iv, .int .i64 pl] 35)) ∧ Blk (wr.alloc (.cells #[.int .u8 (kd : Nat), .string st, .int .i64 iv, .int .i64 pl] 35)) wr.heap.size 35 #[.int .u8 (kd : Nat), .string st, .int .i64 iv, .int .i64 pl]) := zh ⟨(Below.refl _ _).alloc (nlr _) _, Blk.new _ _ _⟩
    have n0 : (0 : Int) <= (k : Int) := by omega
    have n1 : (k : Int) < (n : Int) := by omega
    go_upto_region 6 with (first | (refine wpList_load_mid rfl 35 (.tmp 13) rfl bb (off + k * 4) rfl [.int .u8 (kd : Nat), .string st, .int .i64 iv, .int .i64 pl] (.struct _) HRG.out underlying35 rfl (by kernel_rfl) ?_) | (refine wpList_store_row rfl 35 (.tmp 7) (.tmp 14) rfl wr.heap.size #[.int .u8 (kd : Nat), .string st, .int .i64 iv, .int .i64 pl] rfl rfl 35 #[.int .u8 0, .string ⟨#[]⟩, .int .i64 0, .int .i64 0] HB0.out (by kernel_rfl) rfl (by kernel_rfl) ?_; rw [World.setRow_alloc_new]) | fail)
    obtain ⟨b7, hb7⟩ : ∃ b, b = wr.heap.size := ⟨_, rfl⟩
    have HB5 : Hid (Bl w.heap.size b (Lib.byteCells acc) (wr.alloc (.cells #[.int .u8 (kd : Nat), .string st, .int .i64 iv, .int .i64 pl] 35)) ∧ Below w.heap.size w (wr.alloc (.cells #[.int .u8 (kd : Nat), .string st, .int .i64 iv, .int .i64 pl] 35)) ∧ Blk (wr.alloc (.cells #[.int .u8 (kd : Nat), .string st, .int .i64 iv, .int .i64 pl] 35)) b7 35 #[.int .u8 (kd : Nat), .string st, .int .i64 iv, .int .i64 pl]) := zh ⟨bl_below HBL.out.1 HL4.out.1, HBL.out.2.trans (HL4.out.1.mono HBL.out.2.size), by rw [hb7]; exact HL4.out.2⟩
    rw [<- hb7]
    clear HB0 HL4 HRG HBL hb7
    generalize wr.alloc (.cells #[.int .u8 (kd : Nat), .string st, .int .i64 iv, .int .i64 pl] 35) = w5 at *
    have HRT : Hid (Calls prog 44 #[.agg #[.int .u8 (kd : Nat), .string st, .int .i64 iv, .int .i64 pl]] w5 fun e w' => e = .returned (.bool (rightB x0)) ∧ Below w5.heap.size w5 w') := zh (by
     have := right_any x0 w5 HOK.out
     rw [HX0.out] at this |-
     exact this)
    obtain ⟨R, hR⟩ := ex (rightB x0)
    have HRR := zh hR
    rw [<- hR] at HRT
    clear hR
    go_wp2_with (first | (refine wpList_load_row rfl 35 (.tmp 7) rfl b7 rfl 35 #[.int .u8 (kd : Nat), .string st, .int .i64 iv, .int .i64 pl] (0, 0) _ HB5.out.2.2 underlying35 rfl (by kernel_rfl) ?_) | fail)
    refine HRT.out.mono ?_
    rintro e w6 ⟨rfl, hb6⟩
    have HB6 : Hid (Bl w.heap.size b (Lib.byteCells acc) w6 ∧ Below w.heap.size w w6 ∧ Blk w6 b7 35 #[.int .u8 (kd : Nat), .string st, .int .i64 iv, .int .i64 pl]) := zh ⟨bl_below HB5.out.1 hb6, HB5.out.2.1.trans (hb6.mono HB5.out.2.1.size), HB5.out.2.2.below hb6 HB5.out.2.2.lt⟩
    clear hb6 HRT HB5
    cases R with
    | false =>
     have HF : Hid (spellL l = ([], 3)) := zh (by
      unfold spellL
      have : l.all rightB = false := by
       rw [List.all_eq_false]
       exact ⟨x0, List.mem_of_mem_take (i := k + 1) (by rw [HTK.out]; simp), by rw [<- HRR.out]; decide⟩
      rw [this]; rfl)
     go_wp2_with fail
     go_ret2
     exact ⟨by rw [HF.out]; rfl, HB6.out.2.1⟩
    | true =>
     have HRX : Hid (rightB x0 = true) := zh HRR.out.symm
     cases lg with
     | true =>
      have HS2 : Hid (16384 < acc.length ∧ 16384 < (spF false (l.take k)).length) := zh (HSS.out.elim (fun h => by cases h.1) (fun h => h.2))
      go_wp2_with fail
      go_roundw
      case rel => exact ⟨k + 1, true, acc, by go_num, rfl, by omega, by rw [HTK.out, List.all_append, HALL.out]; simp [HRX.out], .inr ⟨rfl, HS2.out.1, by rw [HTK.out, spF_append, lna]; have := HS2.out.2; omega⟩, HAL0.out, HB6.out.1, HB6.out.2.1⟩
      case measure => simp [intOf]; omega
     | false =>
      have HACC : Hid (spF false (l.take k) = acc) := zh (HSS.out.elim (fun h => h.2) (fun h => by cases h.1))
      obtain ⟨m, hm⟩ := ex acc.length
      have HM := zh hm
      have HLE : Hid (Calls prog 45 #[.pointer (some ⟨b, 0, none⟩)] w6 fun e w' => e = .returned (.int .i64 (m : Nat)) ∧ w' = w6) := zh (by
       have := Tryd.Builder_Len w.heap.size b (Lib.byteCells acc) w6 HB6.out.1
       rw [Lib.byteCells_length, <- hm] at this
       exact this)
      clear hm
      go_wp2_with fail
      refine HLE.out.mono ?_
      rintro e w7 ⟨rfl, hw7⟩
      subst hw7
      by_cases hbig : 16384 < m
      . have db : decide ((m : Int) > 16384) = true := dqt (by omega)
        have db' : decide (16384 < m) = true := dqt hbig
        go_wp2_with fail
        go_roundw
        case rel => exact ⟨k + 1, true, acc, by go_num, rfl, by omega, by rw [HTK.out, List.all_append, HALL.out]; simp [HRX.out], .inr ⟨rfl, by rw [<- HM.out]; exact hbig, by rw [HTK.out, spF_append, lna, HACC.out, <- HM.out]; omega⟩, HAL0.out, HB6.out.1, HB6.out.2.1⟩
        case measure => simp [intOf]; omega
      . have db : decide ((m : Int) > 16384) = false := dqf (by omega)
        have db' : decide (16384 < m) = false := dqf hbig
        have HAL1 : Hid (acc.length <= 16384) := zh (by rw [<- HM.out]; omega)
        by_cases hk0 : k = 0
        . have dk : decide ((k : Int) > 0) = false := dqf (by omega)
          have dk' : decide (0 < k) = false := dqf (by omega)
          obtain ⟨acc2, ha2⟩ : ∃ a, a = acc := ⟨_, rfl⟩
          have HA2 : Hid (acc2 = acc ++ (if false || !(l.take k).isEmpty then [32] else [])) := zh (by rw [ha2, HTE.out, dqt hk0]; simp)
          have HAL : Hid (acc2.length <= 16385) := zh (by rw [ha2]; have := HAL1.out; omega)
          have HWX : Hid (Bl w.heap.size b (Lib.byteCells acc2) w7 ∧ Below w.heap.size w w7) := zh ⟨by rw [ha2]; exact HB6.out.1, HB6.out.2.1⟩
          have HTT : Hid (Blk w7 b7 35 #[.int .u8 (kd : Nat), .string st, .int .i64 iv, .int .i64 pl]) := zh HB6.out.2.2
          clear ha2 hk0
          go_upto_region 12 with fail
          generalize w7 = W at *
          have l0 : W.cell? ⟨b7, 0, none⟩ = some (.int .u8 (kd : Nat)) := HTT.out.cell 0
          by_cases hk2 : kd = 2
          . have e2 : ((kd : Int) == 2) = true := by simp [hk2]
            have l2 : W.cell? ⟨b7, 2, none⟩ = some (.int .i64 iv) := HTT.out.cell 2
            have HSP : Hid (spellT x0 = Lib.itoa iv) := zh (by unfold spellT; rw [HX0.out]; dsimp only; rw [if_pos hk2])
            have HIV : Hid (-9223372036854775808 <= iv ∧ iv <= 9223372036854775807) := zh (by have h := HOK.out.i; rw [HX0.out] at h; exact h)
            have HTL : Hid ((Lib.itoa iv).length <= 20) := zh (itoa_len HIV.out.1 HIV.out.2)
            have HFM := zh (fmt_any iv HIV.out.1 HIV.out.2 W (tab_below HTB.out HWX.out.2))
            clear hk2
            go_wp2_with fail
            refine HFM.out.mono ?_
            rintro e W3 ⟨rfl, kk, os, hw3⟩
            have HW3 : Hid (Below W.heap.size W W3) := zh (by rw [hw3]; exact below_grow _ _ _)
            clear hw3
            have HWX3 : Hid (Bl w.heap.size b (Lib.byteCells acc2) W3 ∧ Below w.heap.size w W3) := zh ⟨bl_below HWX.out.1 HW3.out, HWX.out.2.trans (HW3.out.mono HWX.out.2.size)⟩
            clear HWX HFM
            have HWX := HWX3
            generalize W3 = W at *
            have HWS := zh (wstr_any w.heap.size b (Lib.byteCells acc2) ⟨(Lib.itoa iv).toArray⟩ W HWX.out.1 (by rw [Lib.byteCells_length]; have := HTL.out; have := HAL.out; show _ + (Lib.itoa iv).length <= _; omega) HWX.out.2.size)
            go_wp2_with fail
            refine HWS.out.mono ?_
            rintro e W9 ⟨rfl, hbd9, hb9, _⟩
            have HE9 : Hid (Bl w.heap.size b (Lib.byteCells (acc2 ++ Lib.itoa iv)) W9 ∧ Below w.heap.size w W9) := zh ⟨.inr (by have := hbd9; rw [Lib.byteCells, List.map_append]; exact this), HWX.out.2.trans hb9⟩
            clear hbd9 hb9
            go_wp2_with fail
            go_roundw
            case rel => exact ⟨k + 1, false, acc2 ++ Lib.itoa iv, by go_num, rfl, by omega, by rw [HTK.out, List.all_append, HALL.out]; simp [HRX.out], .inl ⟨rfl, by rw [HTK.out, spF_append, HACC.out, HA2.out, HSP.out]; simp [HTE.out]⟩, by rw [lna]; have := HTL.out; have := HAL.out; omega, HE9.out⟩
            case measure => simp [intOf]; omega
          . have e2 : ((kd : Int) == 2) = false := by simp; omega
            by_cases hk3 : kd = 3
            . have e3 : ((kd : Int) == 3) = true := by simp [hk3]
              have l1 : W.cell? ⟨b7, 1, none⟩ = some (.string st) := HTT.out.cell 1
              have HSP : Hid (spellT x0 = quoteL st.data.toList) := zh (by unfold spellT Tz.tx; rw [HX0.out]; dsimp only; rw [if_neg (by omega), if_pos hk3])
              have HTX : Hid (st.data.toList.length <= 4095) := zh (by
               have h := HRX.out
               unfold rightB Tz.tx at h
               rw [HX0.out] at h
               dsimp only at h
               rw [if_neg (by omega), if_neg (by omega), if_pos hk3, Bool.and_eq_true, decide_eq_true_eq] at h
               exact h.1)
              have HTL : Hid ((quoteL st.data.toList).length <= 16382) := zh (by have := quote_len st.data.toList; have := HTX.out; omega)
              have HQU : Hid (Calls prog 49 #[.string st] W fun e w' => e = .returned (.string ⟨(quoteL st.data.toList).toArray⟩) ∧ Below W.heap.size W w') := zh (by
               have := quoted_any st.data.toList (by have := HTX.out; omega) W
               simpa using this)
              clear hk3
              go_wp2_with fail
              refine HQU.out.mono ?_
              rintro e W3 ⟨rfl, hw3⟩
              have HW3 := zh hw3
              clear hw3
              have HWX3 : Hid (Bl w.heap.size b (Lib.byteCells acc2) W3 ∧ Below w.heap.size w W3) := zh ⟨bl_below HWX.out.1 HW3.out, HWX.out.2.trans (HW3.out.mono HWX.out.2.size)⟩
              clear HWX HQU
              have HWX := HWX3
              generalize W3 = W at *
              have HWS := zh (wstr_any w.heap.size b (Lib.byteCells acc2) ⟨(quoteL st.data.toList).toArray⟩ W HWX.out.1 (by rw [Lib.byteCells_length]; have := HTL.out; have := HAL.out; show _ + (quoteL st.data.toList).length <= _; omega) HWX.out.2.size)
              go_wp2_with fail
              refine HWS.out.mono ?_
              rintro e W9 ⟨rfl, hbd9, hb9, _⟩
              have HE9 : Hid (Bl w.heap.size b (Lib.byteCells (acc2 ++ quoteL st.data.toList)) W9 ∧ Below w.heap.size w W9) := zh ⟨.inr (by have := hbd9; rw [Lib.byteCells, List.map_append]; exact this), HWX.out.2.trans hb9⟩
              clear hbd9 hb9
              go_wp2_with fail
              go_roundw
              case rel => exact ⟨k + 1, false, acc2 ++ quoteL st.data.toList, by go_num, rfl, by omega, by rw [HTK.out, List.all_append, HALL.out]; simp [HRX.out], .inl ⟨rfl, by rw [HTK.out, spF_append, HACC.out, HA2.out, HSP.out]; simp [HTE.out]⟩, by rw [lna]; have := HTL.out; have := HAL.out; omega, HE9.out⟩
              case measure => simp [intOf]; omega
            . have e3 : ((kd : Int) == 3) = false := by simp; omega
              have l1 : W.cell? ⟨b7, 1, none⟩ = some (.string st) := HTT.out.cell 1
              have HSP : Hid (spellT x0 = st.data.toList) := zh (by unfold spellT Tz.tx; rw [HX0.out]; dsimp only; rw [if_neg hk2, if_neg hk3])
              have HTL : Hid (st.data.toList.length <= 24) := zh (right_len HRX.out (by rw [HX0.out]; exact hk2) (by rw [HX0.out]; exact hk3) (by rw [HX0.out]; rfl))
              have HWS := zh (wstr_any w.heap.size b (Lib.byteCells acc2) st W HWX.out.1 (by rw [Lib.byteCells_length]; have := HTL.out; have := HAL.out; show _ + st.data.size <= _; rw [<- Array.length_toList]; omega) HWX.out.2.size)
              go_wp2_with fail
              refine HWS.out.mono ?_
              rintro e W9 ⟨rfl, hbd9, hb9, _⟩
              have HE9 : Hid (Bl w.heap.size b (Lib.byteCells (acc2 ++ st.data.toList)) W9 ∧ Below w.heap.size w W9) := zh ⟨.inr (by have := hbd9; rw [Lib.byteCells, List.map_append]; exact this), HWX.out.2.trans hb9⟩
              clear hbd9 hb9
              go_wp2_with fail
              go_roundw
              case rel => exact ⟨k + 1, false, acc2 ++ st.data.toList, by go_num, rfl, by omega, by rw [HTK.out, List.all_append, HALL.out]; simp [HRX.out], .inl ⟨rfl, by rw [HTK.out, spF_append, HACC.out, HA2.out, HSP.out]; simp [HTE.out]⟩, by rw [lna]; have := HTL.out; have := HAL.out; omega, HE9.out⟩
              case measure => simp [intOf]; omega
        . have dk : decide ((k : Int) > 0) = true := dqt (by omega)
          have dk' : decide (0 < k) = true := dqt (by omega)
          have HWB := zh (wbyte_any w.heap.size b (Lib.byteCells acc) 32 w7 HB6.out.1 (by rw [Lib.byteCells_length]; have := HAL1.out; omega) HB6.out.2.1.size)
          go_wp2_with fail
          refine HWB.out.mono ?_
          rintro e W ⟨rfl, hbd8, hb8, hkp8⟩
          obtain ⟨acc2, ha2⟩ : ∃ a, a = acc ++ [32] := ⟨_, rfl⟩
          have HA2 : Hid (acc2 = acc ++ (if false || !(l.take k).isEmpty then [32] else [])) := zh (by rw [ha2, HTE.out, dqf hk0]; simp)
          have HAL : Hid (acc2.length <= 16385) := zh (by rw [ha2, lna]; have := HAL1.out; simp; omega)
          have HWX : Hid (Bl w.heap.size b (Lib.byteCells acc2) W ∧ Below w.heap.size w W) := zh ⟨.inr (by rw [ha2, Lib.byteCells, List.map_append]; exact hbd8), HB6.out.2.1.trans hb8⟩
          have HTT : Hid (Blk W b7 35 #[.int .u8 (kd : Nat), .string st, .int .i64 iv, .int .i64 pl]) := zh (hkp8 _ _ _ HB6.out.2.2 (by decide) (by decide))
          clear ha2 hk0 hbd8 hb8 hkp8 HWB
          have l0 : W.cell? ⟨b7, 0, none⟩ = some (.int .u8 (kd : Nat)) := HTT.out.cell 0
          by_cases hk2 : kd = 2
          . have e2 : ((kd : Int) == 2) = true := by simp [hk2]
            have l2 : W.cell? ⟨b7, 2, none⟩ = some (.int .i64 iv) := HTT.out.cell 2
            have HSP : Hid (spellT x0 = Lib.itoa iv) := zh (by unfold spellT; rw [HX0.out]; dsimp only; rw [if_pos hk2])
            have HIV : Hid (-9223372036854775808 <= iv ∧ iv <= 9223372036854775807) := zh (by have h := HOK.out.i; rw [HX0.out] at h; exact h)
            have HTL : Hid ((Lib.itoa iv).length <= 20) := zh (itoa_len HIV.out.1 HIV.out.2)
            have HFM := zh (fmt_any iv HIV.out.1 HIV.out.2 W (tab_below HTB.out HWX.out.2))
            clear hk2
            go_wp2_with fail
            refine HFM.out.mono ?_
            rintro e W3 ⟨rfl, kk, os, hw3⟩
            have HW3 : Hid (Below W.heap.size W W3) := zh (by rw [hw3]; exact below_grow _ _ _)
            clear hw3
            have HWX3 : Hid (Bl w.heap.size b (Lib.byteCells acc2) W3 ∧ Below w.heap.size w W3) := zh ⟨bl_below HWX.out.1 HW3.out, HWX.out.2.trans (HW3.out.mono HWX.out.2.size)⟩
            clear HWX HFM
            have HWX := HWX3
            generalize W3 = W at *
            have HWS := zh (wstr_any w.heap.size b (Lib.byteCells acc2) ⟨(Lib.itoa iv).toArray⟩ W HWX.out.1 (by rw [Lib.byteCells_length]; have := HTL.out; have := HAL.out; show _ + (Lib.itoa iv).length <= _; omega) HWX.out.2.size)
            go_wp2_with fail
            refine HWS.out.mono ?_
            rintro e W9 ⟨rfl, hbd9, hb9, _⟩
            have HE9 : Hid (Bl w.heap.size b (Lib.byteCells (acc2 ++ Lib.itoa iv)) W9 ∧ Below w.heap.size w W9) := zh ⟨.inr (by have := hbd9; rw [Lib.byteCells, List.map_append]; exact this), HWX.out.2.trans hb9⟩
            clear hbd9 hb9
            go_wp2_with fail
            go_roundw
            case rel => exact ⟨k + 1, false, acc2 ++ Lib.itoa iv, by go_num, rfl, by omega, by rw [HTK.out, List.all_append, HALL.out]; simp [HRX.out], .inl ⟨rfl, by rw [HTK.out, spF_append, HACC.out, HA2.out, HSP.out]; simp [HTE.out]⟩, by rw [lna]; have := HTL.out; have := HAL.out; omega, HE9.out⟩
            case measure => simp [intOf]; omega
          . have e2 : ((kd : Int) == 2) = false := by simp; omega
            by_cases hk3 : kd = 3
            . have e3 : ((kd : Int) == 3) = true := by simp [hk3]
              have l1 : W.cell? ⟨b7, 1, none⟩ = some (.string st) := HTT.out.cell 1
              have HSP : Hid (spellT x0 = quoteL st.data.toList) := zh (by unfold spellT Tz.tx; rw [HX0.out]; dsimp only; rw [if_neg (by omega), if_pos hk3])
              have HTX : Hid (st.data.toList.length <= 4095) := zh (by
               have h := HRX.out
               unfold rightB Tz.tx at h
               rw [HX0.out] at h
               dsimp only at h
               rw [if_neg (by omega), if_neg (by omega), if_pos hk3, Bool.and_eq_true, decide_eq_true_eq] at h
               exact h.1)
              have HTL : Hid ((quoteL st.data.toList).length <= 16382) := zh (by have := quote_len st.data.toList; have := HTX.out; omega)
              have HQU : Hid (Calls prog 49 #[.string st] W fun e w' => e = .returned (.string ⟨(quoteL st.data.toList).toArray⟩) ∧ Below W.heap.size W w') := zh (by
               have := quoted_any st.data.toList (by have := HTX.out; omega) W
               simpa using this)
              clear hk3
              go_wp2_with fail
              refine HQU.out.mono ?_
              rintro e W3 ⟨rfl, hw3⟩
              have HW3 := zh hw3
              clear hw3
              have HWX3 : Hid (Bl w.heap.size b (Lib.byteCells acc2) W3 ∧ Below w.heap.size w W3) := zh ⟨bl_below HWX.out.1 HW3.out, HWX.out.2.trans (HW3.out.mono HWX.out.2.size)⟩
              clear HWX HQU
              have HWX := HWX3
              generalize W3 = W at *
              have HWS := zh (wstr_any w.heap.size b (Lib.byteCells acc2) ⟨(quoteL st.data.toList).toArray⟩ W HWX.out.1 (by rw [Lib.byteCells_length]; have := HTL.out; have := HAL.out; show _ + (quoteL st.data.toList).length <= _; omega) HWX.out.2.size)
              go_wp2_with fail
              refine HWS.out.mono ?_
              rintro e W9 ⟨rfl, hbd9, hb9, _⟩
              have HE9 : Hid (Bl w.heap.size b (Lib.byteCells (acc2 ++ quoteL st.data.toList)) W9 ∧ Below w.heap.size w W9) := zh ⟨.inr (by have := hbd9; rw [Lib.byteCells, List.map_append]; exact this), HWX.out.2.trans hb9⟩
              clear hbd9 hb9
              go_wp2_with fail
              go_roundw
              case rel => exact ⟨k + 1, false, acc2 ++ quoteL st.data.toList, by go_num, rfl, by omega, by rw [HTK.out, List.all_append, HALL.out]; simp [HRX.out], .inl ⟨rfl, by rw [HTK.out, spF_append, HACC.out, HA2.out, HSP.out]; simp [HTE.out]⟩, by rw [lna]; have := HTL.out; have := HAL.out; omega, HE9.out⟩
              case measure => simp [intOf]; omega
            . have e3 : ((kd : Int) == 3) = false := by simp; omega
              have l1 : W.cell? ⟨b7, 1, none⟩ = some (.string st) := HTT.out.cell 1
              have HSP : Hid (spellT x0 = st.data.toList) := zh (by unfold spellT Tz.tx; rw [HX0.out]; dsimp only; rw [if_neg hk2, if_neg hk3])
              have HTL : Hid (st.data.toList.length <= 24) := zh (right_len HRX.out (by rw [HX0.out]; exact hk2) (by rw [HX0.out]; exact hk3) (by rw [HX0.out]; rfl))
              have HWS := zh (wstr_any w.heap.size b (Lib.byteCells acc2) st W HWX.out.1 (by rw [Lib.byteCells_length]; have := HTL.out; have := HAL.out; show _ + st.data.size <= _; rw [<- Array.length_toList]; omega) HWX.out.2.size)
              go_wp2_with fail
              refine HWS.out.mono ?_
              rintro e W9 ⟨rfl, hbd9, hb9, _⟩
              have HE9 : Hid (Bl w.heap.size b (Lib.byteCells (acc2 ++ st.data.toList)) W9 ∧ Below w.heap.size w W9) := zh ⟨.inr (by have := hbd9; rw [Lib.byteCells, List.map_append]; exact this), HWX.out.2.trans hb9⟩
              clear hbd9 hb9
              go_wp2_with fail
              go_roundw
              case rel => exact ⟨k + 1, false, acc2 ++ st.data.toList, by go_num, rfl, by omega, by rw [HTK.out, List.all_append, HALL.out]; simp [HRX.out], .inl ⟨rfl, by rw [HTK.out, spF_append, HACC.out, HA2.out, HSP.out]; simp [HTE.out]⟩, by rw [lna]; have := HTL.out; have := HAL.out; omega, HE9.out⟩
              case measure => simp [intOf]; omega
  . have di : decide ((k : Int) < (n : Int)) = false := dqf (by omega)
    have hkn : k = n := by omega
    have HTF : Hid (l.take k = l) := zh (List.take_of_length_le (by rw [<- HH.out.2.1]; omega))
    have HALR : Hid (l.all rightB = true) := zh (by rw [<- HTF.out]; exact HALL.out)
    obtain ⟨m, hm⟩ := ex acc.length
    have HM := zh hm
    have HLE : Hid (Calls prog 45 #[.pointer (some ⟨b, 0, none⟩)] wr fun e w' => e = .returned (.int .i64 (m : Nat)) ∧ w' = wr) := zh (by
     have := Tryd.Builder_Len w.heap.size b (Lib.byteCells acc) wr HBL.out.1
     rw [Lib.byteCells_length, <- hm] at this
     exact this)
    clear hm hkn
    go_wp2_with fail
    refine HLE.out.mono ?_
    rintro e w7 ⟨rfl, hw7⟩
    subst hw7
    by_cases hbig : 16384 < m
    . have db : decide ((m : Int) > 16384) = true := dqt (by omega)
      have db' : decide (16384 < m) = true := dqt hbig
      have HF : Hid (spellL l = ([], 2)) := zh (by
       unfold spellL
       rw [HALR.out, if_pos rfl, if_pos]
       have h := HSS.out
       unfold Sps at h
       rw [HTF.out] at h
       rcases h with ⟨_, h⟩ | ⟨_, _, h⟩
       . rw [h, <- HM.out]; exact hbig
       . exact h)
      go_wp2_with fail
      go_ret2
      exact ⟨by rw [HF.out]; rfl, HBL.out.2⟩
    . have db : decide ((m : Int) > 16384) = false := dqf (by omega)
      have db' : decide (16384 < m) = false := dqf hbig
      have HF : Hid (spellL l = (acc, 0)) := zh (by
       have h := HSS.out
       unfold Sps at h
       rw [HTF.out] at h
       rcases h with ⟨_, h⟩ | ⟨_, h, _⟩
       . unfold spellL
         rw [HALR.out, if_pos rfl, h, if_neg (by rw [<- HM.out]; exact hbig)]
       . rw [<- HM.out] at h; exact absurd h hbig)
      have HST := zh (Tryd.Builder_String_any w.heap.size b acc w7 HBL.out.1 HBL.out.2.size)
      go_wp2_with fail
      refine HST.out.mono ?_
      rintro e w8 ⟨rfl, hb8⟩
      have HB8 := zh (HBL.out.2.trans hb8)
      clear hb8
      go_wp2_with fail
      go_ret2
      exact ⟨by rw [HF.out]; rfl, HB8.out⟩
def strOf (l : List UInt8) : Value := .string ⟨l.toArray⟩
def amongL (ss : List (List UInt8)) (k : Nat) (s : List UInt8) : Bool := (ss.take k).any fun x => x == s
theorem amongL_succ (ss : List (List UInt8)) (k : Nat) (s : List UInt8) (h : k < ss.length) : amongL ss (k + 1) s = (amongL ss k s || ss[k] == s) := by
 unfold amongL; rw [List.take_succ_eq_append_getElem h]; simp only [List.any_append, List.any_cons, List.any_nil, Bool.or_false]
theorem amongL_true (ss : List (List UInt8)) (k n : Nat) (s : List UInt8) (h : k < ss.length) (hn : k < n) (he : (ss[k] == s) = true) : amongL ss n s = true := by
 unfold amongL
 rw [List.any_eq_true]
 refine ⟨ss[k], ?_, he⟩
 rw [List.mem_take_iff_getElem]
 exact ⟨k, by omega, rfl⟩
theorem among_any (b n cap : Nat) (ss : List (List UInt8)) (s : ByteArray) (w : World) (hlen : ss.length = n) (hn : n <= 1000)
 (hc : ∀ k x, ss[k]? = some x -> w.cell? ⟨b, k, none⟩ = some (strOf x)) :
 Calls prog 90 #[.slice (some ⟨b, 0, none⟩) n cap, .string s] w fun e w' => e = .returned (.bool (amongL ss n s.toList)) ∧ w = w' := by
 have HL := zh hlen
 clear hlen
 have HC := zh hc
 clear hc
 go_in
 go_wp2
 go_loop [5] (fun i => ∃ k : Nat, k <= n ∧ i = .int .i64 k ∧ amongL ss k s.toList = false) (fun i => n - (intOf i).toNat)
 case atStart => exact ⟨0, by omega, rfl, by simp [amongL]⟩
 case round =>
  obtain ⟨k, hk, rfl, hf⟩ := hrel
  by_cases hlt : k < n
  . have hl : k < ss.length := by rw [HL.out]; exact hlt
    have hcell := HC.out k ss[k] (List.getElem?_eq_getElem hl)
    unfold strOf at hcell
    have HF := zh hf
    clear hf
    have HS := zh (amongL_succ ss k s.toList hl)
    go_wp2
    . go_ret
      exact ⟨ret_bool (amongL_true ss k n s.toList hl hlt (by assumption)).symm, rfl⟩
    . have hne : (ss[k] == s.toList) = false := by assumption
      go_round
      case rel => exact ⟨k + 1, by omega, by go_num, by rw [HS.out, HF.out, hne]; rfl⟩
      case measure => simp [intOf]; omega
  . have hkn : k = n := by omega
    have HF := zh hf
    clear hf
    go_wp2
    go_ret
    exact ⟨ret_bool (by rw [<- hkn, HF.out]), rfl⟩
def sgnR : List (List UInt8) := [[61, 61], [33, 61], [60, 61], [40], [41], [123], [125], [91], [93], [44], [61], [60], [43], [45], [42], [47], [37]]
def sgnCells : Array Value := (sgnR.map strOf).toArray
theorem signs_call (w : World) :
 Calls prog 91 #[] w fun e w' => e = .returned (.slice (some ⟨w.heap.size, 0, none⟩) 17 17) ∧ w.alloc (.cells sgnCells 9) = w' := by
 go_in
 go_wp2_with fail
 go_ret
 exact ⟨rfl, rfl⟩
theorem amongR (s : List UInt8) : amongL sgnR 17 s = decide (s ∈ sgn17) := by
 unfold amongL
 rw [List.take_of_length_le (by decide)]
 rw [Bool.eq_iff_iff, List.any_eq_true, decide_eq_true_eq]
 constructor
 . rintro ⟨x, hx, he⟩
   have : x = s := by simpa using he
   subst this
   revert hx
   have key : ∀ y ∈ sgnR, y ∈ sgn17 := by decide
   exact key x
 . intro h
   have key : ∀ y ∈ sgn17, y ∈ sgnR := by decide
   exact ⟨s, key s h, by simp⟩
theorem scan_all {p : UInt8 -> Bool} (s : List UInt8) : decide (scan p s 0 = s.length) = s.all p := by
 have key : ∀ s : List UInt8, (s.takeWhile p).length = s.length ↔ s.all p = true := fun s => by
  induction s with
  | nil => simp
  | cons c r ih =>
   rw [List.takeWhile_cons, List.all_cons]
   cases h : p c
   . simp
   . simp [ih]
 unfold scan
 rw [List.drop_zero, Nat.zero_add]
 rw [Bool.eq_iff_iff, decide_eq_true_eq]
 exact key s
theorem low_any (c : UInt8) (w : World) : Calls prog 92 #[.int .u8 (c.toNat : Nat)] w fun e w' => e = .returned (.bool (lowB c)) ∧ w' = w := by
 have HC : Hid (lowB c = (decide (97 <= c.toNat) && decide (c.toNat <= 122))) := rfl
 have h1 : c.toNat < 256 := UInt8.toNat_lt _
 generalize c.toNat = x at *
 by_cases ha : 97 <= x
 . by_cases hb : x <= 122
   . go_in
     go_wp2_with fail
     go_ret
     exact ⟨by rw [HC.out]; simp [ha, hb]; omega, rfl⟩
   . go_in
     go_wp2_with fail
     go_ret
     exact ⟨by rw [HC.out]; simp [ha, hb]; omega, rfl⟩
 . go_in
   go_wp2_with fail
   go_ret
   exact ⟨by rw [HC.out]; simp [ha], rfl⟩
theorem dig_any (c : UInt8) (w : World) : Calls prog 117 #[.int .u8 (c.toNat : Nat)] w fun e w' => e = .returned (.bool (digB c)) ∧ w' = w := by
 have HC : Hid (digB c = (decide (48 <= c.toNat) && decide (c.toNat <= 57))) := rfl
 have h1 : c.toNat < 256 := UInt8.toNat_lt _
 generalize c.toNat = x at *
 by_cases ha : 48 <= x
 . by_cases hb : x <= 57
   . go_in
     go_wp2_with fail
     go_ret
     exact ⟨by rw [HC.out]; simp [ha, hb]; omega, rfl⟩
   . go_in
     go_wp2_with fail
     go_ret
     exact ⟨by rw [HC.out]; simp [ha, hb]; omega, rfl⟩
 . go_in
   go_wp2_with fail
   go_ret
   exact ⟨by rw [HC.out]; simp [ha], rfl⟩
def toldV (t : Tok) (e q er : Nat) : Value := .agg #[.int .u8 (t.kind : Nat), .string ⟨t.text.toArray⟩, .int .i64 (t.int : Nat), .int .i64 (t.place : Nat), .int .i64 (e : Nat), .int .i64 (q : Nat), .int .i64 (er : Nat)]
def told : (Nat × Nat) ⊕ (Tok × Nat) -> Value
 | .inl (q, er) => toldV ⟨0, [], 0, 0⟩ 0 q er
 | .inr (t, e) => toldV t e 0 0
def ToldPost (w : World) (r : (Nat × Nat) ⊕ (Tok × Nat)) (e : Ending) (w' : World) : Prop := e = .returned (told r) ∧ Below w.heap.size w w'
theorem wrong_any (q e : Nat) (w : World) : Calls prog 118 #[.int .i64 (q : Nat), .int .i64 (e : Nat)] w (ToldPost w (.inl (q, e))) := by
 go_in
 go_wp2_with fail
 refine bodyPost_ret (results_cell_row rfl _ _ w.heap.size 121 _ (0, 0) _ rfl (Blk.new w 121 _) underlying121 rfl (by kernel_rfl)) rfl ⟨rfl, (Below.refl _ _).alloc (nlr _) _⟩
theorem extract_cut (s : List UInt8) (i e : Nat) : (⟨s.toArray⟩ : ByteArray).extract i e = ⟨(cutL s i e).toArray⟩ := by
 apply ByteArray.ext
 rw [ByteArray.data_extract]
 unfold cutL
 simp [List.drop_take]
theorem word_any (s : List UInt8) (i : Nat) (hs : s.length <= 100000) (hi : i <= s.length) (w : World) :
 Calls prog 93 #[.string ⟨s.toArray⟩, .int .i64 (i : Nat)] w (ToldPost w (wordL s i)) := by
 obtain ⟨st, hst⟩ : ∃ st : ByteArray, st = ⟨s.toArray⟩ := ⟨_, rfl⟩
 have hsz : st.size = s.length := by rw [hst]; rfl
 obtain ⟨n, hn⟩ := ex s.length
 obtain ⟨E, hE⟩ := ex (scan innB s i)
 have hEn : E <= n := by rw [hE, hn]; exact scan_le _ _ hi
 have hiE : i <= E := by rw [hE]; exact scan_ge _ _ _
 rw [<- hst]
 rw [<- hn] at hsz hs hi
 have HST := zh hst
 have HN := zh hn
 have HE := zh hE
 clear hst hn hE
 go_in
 go_wp2_with fail
 go_loopw [5] (fun s5 wr => (∃ k : Nat, s5 = .int .i64 k ∧ i <= k ∧ k <= E ∧ scan innB s k = E) ∧ wr = w.alloc (.cells #[.int .u8 0, .string ⟨#[]⟩, .int .i64 0, .int .i64 0, .int .i64 0, .int .i64 0, .int .i64 0] 121)) (fun s5 _ => n - (intOf s5).toNat)
 case atStart => exact ⟨⟨i, rfl, nlr _, hiE, HE.out.symm⟩, rfl⟩
 case round =>
  obtain ⟨⟨k, rfl, hik, hkE, hsc⟩, hw⟩ := hrel
  have HX := zh (ai hsc hw)
  clear hsc hw
  by_cases hlt : k < n
  . have hks : k < s.length := by rw [<- HN.out]; exact hlt
    obtain ⟨ch, hch⟩ : ∃ c, c = s[k] := ⟨_, rfl⟩
    have hkst : k < st.size := by omega
    have hg : st[k] = ch := by rw [hch]; exact st_get HST.out hkst hks
    have HSP : Hid (innB ch = false -> k = E) := fun hd => by rw [<- HX.out.1]; exact (scan_stop _ _ hks (by rw [<- hch]; exact hd)).symm
    have HST2 : Hid (innB ch = true -> scan innB s (k + 1) = E) := fun hd => by rw [<- HX.out.1]; exact (scan_step _ _ hks (by rw [<- hch]; exact hd)).symm
    clear hch hks
    have HIN : Hid (innB ch = (lowB ch || digB ch || decide (ch.toNat = 95))) := rfl
    have hcl : ch.toNat < 256 := UInt8.toNat_lt _
    have HLO := zh (low_any ch wr)
    have HDI := zh (dig_any ch wr)
    obtain ⟨cv, hcv⟩ : ∃ v, v = ch.toNat := ⟨_, rfl⟩
    have hg2 : st[k].toNat = cv := by rw [hg, hcv]
    rw [<- hcv] at HLO HDI HIN hcl
    clear hg hcv
    by_cases hin : innB ch = true
    . have HS := zh (HST2.out hin)
      have hkE3 : k + 1 <= E := by rw [<- HS.out]; exact scan_ge _ _ _
      rw [HIN.out] at hin
      cases hlo : lowB ch
      . cases hdi : digB ch
        . have h95 : cv = 95 := by rw [hlo, hdi] at hin; simpa using hin
          have hb95 : ((cv : Int) == 95) = true := by rw [h95]; rfl
          clear h95 hin
          go_wp2_with fail
          refine HLO.out.mono ?_
          rintro e w3 ⟨rfl, hw3⟩
          rw [hw3, hlo]
          clear hw3 w3
          go_wp2_with fail
          refine HDI.out.mono ?_
          rintro e w3 ⟨rfl, hw3⟩
          rw [hw3, hdi]
          clear hw3 w3
          go_wp2_with fail
          go_roundw
          case rel => exact ⟨⟨k + 1, by go_num, by omega, hkE3, HS.out⟩, HX.out.2⟩
          case measure => simp [intOf]; omega
        . clear hin
          go_wp2_with fail
          refine HLO.out.mono ?_
          rintro e w3 ⟨rfl, hw3⟩
          rw [hw3, hlo]
          clear hw3 w3
          go_wp2_with fail
          refine HDI.out.mono ?_
          rintro e w3 ⟨rfl, hw3⟩
          rw [hw3, hdi]
          clear hw3 w3
          go_wp2_with fail
          go_roundw
          case rel => exact ⟨⟨k + 1, by go_num, by omega, hkE3, HS.out⟩, HX.out.2⟩
          case measure => simp [intOf]; omega
      . clear hin
        go_wp2_with fail
        refine HLO.out.mono ?_
        rintro e w3 ⟨rfl, hw3⟩
        rw [hw3, hlo]
        clear hw3 w3
        go_wp2_with fail
        go_roundw
        case rel => exact ⟨⟨k + 1, by go_num, by omega, hkE3, HS.out⟩, HX.out.2⟩
        case measure => simp [intOf]; omega
    . have hkE2 : k = E := HSP.out (by simpa using hin)
      rw [HIN.out] at hin
      have hlo : lowB ch = false := by cases h : lowB ch <;> simp_all
      have hdi : digB ch = false := by cases h : digB ch <;> simp_all
      have h95 : ¬ cv = 95 := by rw [hlo, hdi] at hin; simpa using hin
      have hb95 : ((cv : Int) == 95) = false := by rw [bfn]; omega
      clear hin h95
      have hbw : Below w.heap.size w wr := by rw [HX.out.2]; exact (Below.refl _ _).alloc (nlr _) _
      have HBW := zh hbw
      have hy : Blk wr w.heap.size 121 #[.int .u8 0, .string ⟨#[]⟩, .int .i64 0, .int .i64 0, .int .i64 0, .int .i64 0, .int .i64 0] := by rw [HX.out.2]; exact Blk.new w 121 _
      have HY := zh hy
      have hszr : w.heap.size < wr.heap.size := hy.lt
      clear hbw hy
      by_cases h24 : 24 < k - i
      . have HR : Hid (wordL s i = .inl (i, 2)) := by unfold wordL; rw [<- HE.out, <- hkE2, if_pos h24]; exact rfl
        clear hkE2
        go_wp2_with fail
        refine HLO.out.mono ?_
        rintro e w3 ⟨rfl, hw3⟩
        rw [hw3, hlo]
        clear hw3 w3
        go_wp2_with fail
        refine HDI.out.mono ?_
        rintro e w3 ⟨rfl, hw3⟩
        rw [hw3, hdi]
        clear hw3 w3
        go_wp2_with fail
        refine (wrong_any i 2 wr).mono ?_
        rintro e w2 ⟨rfl, hb2⟩
        unfold told toldV
        have HB2 := zh (HBW.out.trans (hb2.mono HBW.out.size))
        have HY2 : Hid (Blk w2 w.heap.size 121 #[.int .u8 0, .string ⟨#[]⟩, .int .i64 0, .int .i64 0, .int .i64 0, .int .i64 0, .int .i64 0]) := (hb2.block _ hszr).trans HY.out
        clear hb2
        go_wp2_with (refine wpList_store_row rfl 121 _ _ rfl w.heap.size #[.int .u8 0, .string ⟨#[]⟩, .int .i64 0, .int .i64 0, .int .i64 0, .int .i64 (i : Nat), .int .i64 2] rfl rfl 121 _ HY2.out (by kernel_rfl) (by kernel_rfl) (by kernel_rfl) ?_)
        refine bodyPost_ret (results_cell_row rfl _ _ w.heap.size 121 #[.int .u8 0, .string ⟨#[]⟩, .int .i64 0, .int .i64 0, .int .i64 0, .int .i64 (i : Nat), .int .i64 2] (0, 0) _ rfl (setRow_heap _ w.heap.size _ _ 121 _ HY2.out) underlying121 rfl (by kernel_rfl)) rfl ⟨by rw [HR.out]; rfl, below_setRow HB2.out (nlr _) _⟩
      . have HR : Hid (wordL s i = .inr (⟨1, cutL s i k, 0, i⟩, k)) := by unfold wordL; rw [<- HE.out, <- hkE2, if_neg h24]; exact rfl
        have hkn : k <= n := by omega
        have hsl := run_slice_string (P := prog) (w := wr) 9 st .i64 .i64 (i : Nat) (k : Nat) underlying9 (by omega) (by omega) (by omega)
        simp only [Int.toNat_natCast] at hsl
        have hex : st.extract i k = ⟨(cutL s i k).toArray⟩ := by rw [HST.out]; exact extract_cut s i k
        rw [hex] at hsl
        clear hkE2 hex
        go_wp2_with fail
        refine HLO.out.mono ?_
        rintro e w3 ⟨rfl, hw3⟩
        rw [hw3, hlo]
        clear hw3 w3
        go_wp2_with fail
        refine HDI.out.mono ?_
        rintro e w3 ⟨rfl, hw3⟩
        rw [hw3, hdi]
        clear hw3 w3
        go_wp2_with (refine wpList_store_row rfl 121 _ _ rfl w.heap.size #[.int .u8 1, .string ⟨(cutL s i k).toArray⟩, .int .i64 0, .int .i64 (i : Nat), .int .i64 (k : Nat), .int .i64 0, .int .i64 0] rfl rfl 121 _ HY.out (by kernel_rfl) (by kernel_rfl) (by kernel_rfl) ?_)
        refine bodyPost_ret (results_cell_row rfl _ _ w.heap.size 121 #[.int .u8 1, .string ⟨(cutL s i k).toArray⟩, .int .i64 0, .int .i64 (i : Nat), .int .i64 (k : Nat), .int .i64 0, .int .i64 0] (0, 0) _ rfl (setRow_heap _ w.heap.size _ _ 121 _ HY.out) underlying121 rfl (by kernel_rfl)) rfl ⟨by rw [HR.out]; rfl, below_setRow HBW.out (nlr _) _⟩
  . have hkE2 : k = E := by omega
    have hbw : Below w.heap.size w wr := by rw [HX.out.2]; exact (Below.refl _ _).alloc (nlr _) _
    have HBW := zh hbw
    have hy : Blk wr w.heap.size 121 #[.int .u8 0, .string ⟨#[]⟩, .int .i64 0, .int .i64 0, .int .i64 0, .int .i64 0, .int .i64 0] := by rw [HX.out.2]; exact Blk.new w 121 _
    have HY := zh hy
    have hszr : w.heap.size < wr.heap.size := hy.lt
    clear hbw hy
    by_cases h24 : 24 < k - i
    . have HR : Hid (wordL s i = .inl (i, 2)) := by unfold wordL; rw [<- HE.out, <- hkE2, if_pos h24]; exact rfl
      clear hkE2
      go_wp2_with fail
      refine (wrong_any i 2 wr).mono ?_
      rintro e w2 ⟨rfl, hb2⟩
      unfold told toldV
      have HB2 := zh (HBW.out.trans (hb2.mono HBW.out.size))
      have HY2 : Hid (Blk w2 w.heap.size 121 #[.int .u8 0, .string ⟨#[]⟩, .int .i64 0, .int .i64 0, .int .i64 0, .int .i64 0, .int .i64 0]) := (hb2.block _ hszr).trans HY.out
      clear hb2
      go_wp2_with (refine wpList_store_row rfl 121 _ _ rfl w.heap.size #[.int .u8 0, .string ⟨#[]⟩, .int .i64 0, .int .i64 0, .int .i64 0, .int .i64 (i : Nat), .int .i64 2] rfl rfl 121 _ HY2.out (by kernel_rfl) (by kernel_rfl) (by kernel_rfl) ?_)
      refine bodyPost_ret (results_cell_row rfl _ _ w.heap.size 121 #[.int .u8 0, .string ⟨#[]⟩, .int .i64 0, .int .i64 0, .int .i64 0, .int .i64 (i : Nat), .int .i64 2] (0, 0) _ rfl (setRow_heap _ w.heap.size _ _ 121 _ HY2.out) underlying121 rfl (by kernel_rfl)) rfl ⟨by rw [HR.out]; rfl, below_setRow HB2.out (nlr _) _⟩
    . have HR : Hid (wordL s i = .inr (⟨1, cutL s i k, 0, i⟩, k)) := by unfold wordL; rw [<- HE.out, <- hkE2, if_neg h24]; exact rfl
      have hkn : k <= n := by omega
      have hsl := run_slice_string (P := prog) (w := wr) 9 st .i64 .i64 (i : Nat) (k : Nat) underlying9 (by omega) (by omega) (by omega)
      simp only [Int.toNat_natCast] at hsl
      have hex : st.extract i k = ⟨(cutL s i k).toArray⟩ := by rw [HST.out]; exact extract_cut s i k
      rw [hex] at hsl
      clear hkE2 hex
      go_wp2_with (refine wpList_store_row rfl 121 _ _ rfl w.heap.size #[.int .u8 1, .string ⟨(cutL s i k).toArray⟩, .int .i64 0, .int .i64 (i : Nat), .int .i64 (k : Nat), .int .i64 0, .int .i64 0] rfl rfl 121 _ HY.out (by kernel_rfl) (by kernel_rfl) (by kernel_rfl) ?_)
      refine bodyPost_ret (results_cell_row rfl _ _ w.heap.size 121 #[.int .u8 1, .string ⟨(cutL s i k).toArray⟩, .int .i64 0, .int .i64 (i : Nat), .int .i64 (k : Nat), .int .i64 0, .int .i64 0] (0, 0) _ rfl (setRow_heap _ w.heap.size _ _ 121 _ HY.out) underlying121 rfl (by kernel_rfl)) rfl ⟨by rw [HR.out]; rfl, below_setRow HBW.out (nlr _) _⟩
set_option maxRecDepth 100000 in
theorem may_any (x : Tz) (w : World) (hx : TzOk x) : Calls prog 51 #[.agg (zcell x).toArray] w fun e w' => e = .returned (.bool (rightB x)) ∧ Below w.heap.size w w' := by
 obtain ⟨R, hR⟩ := ex (rightB x)
 have HR := zh hR
 rw [<- hR]
 clear hR
 obtain ⟨kd, st, iv, pl⟩ := x
 dsimp only [zcell]
 have hk9 := hx.k
 have ht := hx.t
 dsimp only at hk9 ht
 clear hx
 have H1 : Hid (Below w.heap.size w (w.alloc (.cells #[.int .u8 (kd : Nat), .string st, .int .i64 iv, .int .i64 pl] 35)) ∧ Blk (w.alloc (.cells #[.int .u8 (kd : Nat), .string st, .int .i64 iv, .int .i64 pl] 35)) w.heap.size 35 #[.int .u8 (kd : Nat), .string st, .int .i64 iv, .int .i64 pl]) := zh ⟨(Below.refl _ _).alloc (nlr _) _, Blk.new _ _ _⟩
 go_in
 go_upto_region 1 with fail
 generalize w.alloc (.cells #[.int .u8 (kd : Nat), .string st, .int .i64 iv, .int .i64 pl] 35) = w1 at *
 have k0 : w1.cell? ⟨w.heap.size, 0, none⟩ = some (.int .u8 (kd : Nat)) := H1.out.2.cell 0
 have k1 : w1.cell? ⟨w.heap.size, 1, none⟩ = some (.string st) := H1.out.2.cell 1
 have k2 : w1.cell? ⟨w.heap.size, 2, none⟩ = some (.int .i64 iv) := H1.out.2.cell 2
 by_cases hk2 : kd = 2
 . have hk := hk2
   have m1 : ((kd : Int) == 1) = false := by simp; omega
   have m2 : ((kd : Int) == 2) = true := by simp [hk]
   have m3 : ((kd : Int) == 3) = false := by simp; omega
   have m4 : ((kd : Int) == 4) = false := by simp; omega
   have HRK : Hid (R = (decide (st.data.toList = []) && decide (0 <= iv))) := zh (by rw [HR.out]; unfold rightB Tz.tx; dsimp only; rw [hk]; rfl)
   by_cases hst : st = ⟨#[]⟩
   . have HE : Hid (R = decide (0 <= iv)) := zh (by rw [HRK.out, hst]; simp)
     subst hst
     go_wp2_with fail
     go_ret
     exact ⟨ret_bool (by rw [HE.out]), H1.out.1⟩
   . have e0 : (st.toList == []) = false := by
      rw [bfn]
      exact fun h => hst (bytes_of_list (by rw [h, ByteArray.toList_eq]))
     have HE : Hid (R = false) := zh (by rw [HRK.out, dqf (fun h => hst (bytes_of_list (by rw [ByteArray.toList_eq, ByteArray.toList_eq, h])))]; rfl)
     clear hst
     go_wp2_with fail
     go_ret
     exact ⟨ret_bool (by rw [HE.out]), H1.out.1⟩
 by_cases hiv : iv = 0
 . have e9 : (iv != 0) = false := by simp [hiv]
   by_cases hk3 : kd = 3
   . have hk := hk3
     have m1 : ((kd : Int) == 1) = false := by simp; omega
     have m2 : ((kd : Int) == 2) = false := by simp; omega
     have m3 : ((kd : Int) == 3) = true := by simp [hk]
     have m4 : ((kd : Int) == 4) = false := by simp; omega
     have HRK : Hid (R = decide (st.data.toList.length <= 4095)) := zh (by rw [HR.out]; unfold rightB Tz.tx; dsimp only; rw [hk]; simp [hiv])
     have hsz : st.data.toList.length = st.size := by rw [Array.length_toList]; rfl
     go_wp2_with fail
     go_ret
     exact ⟨ret_bool (by rw [HRK.out, hsz]; simp; omega), H1.out.1⟩
   by_cases hk4 : kd = 4
   . have hk := hk4
     have m1 : ((kd : Int) == 1) = false := by simp; omega
     have m2 : ((kd : Int) == 2) = false := by simp; omega
     have m3 : ((kd : Int) == 3) = false := by simp; omega
     have m4 : ((kd : Int) == 4) = true := by simp [hk]
     have HRK : Hid (R = decide (st.data.toList ∈ sgn17)) := zh (by rw [HR.out]; unfold rightB Tz.tx; dsimp only; rw [hk]; simp [hiv])
     have HSG := zh (fun W => signs_call W)
     have HF0 : Hid (w1.drew.cell? ⟨w.heap.size, 1, none⟩ = some (.string st)) := zh k1
     have HB2 : Hid (Below w1.heap.size w1 (w1.drew.alloc (.cells sgnCells 9)) ∧ Blk (w1.drew.alloc (.cells sgnCells 9)) w1.heap.size 9 sgnCells) := zh ⟨(Below.refl _ _).drew.alloc (nlr _) _, Blk.new w1.drew _ _⟩
     have HF1 : Hid ((w1.drew.alloc (.cells sgnCells 9)).cell? ⟨w.heap.size, 1, none⟩ = some (.string st)) := zh ((H1.out.2.below HB2.out.1 H1.out.2.lt).cell 1)
     have HAM : Hid (Calls prog 90 #[.slice (some ⟨w1.heap.size, 0, none⟩) 17 17, .string st] (w1.drew.alloc (.cells sgnCells 9)) fun e w' => e = .returned (.bool R) ∧ w1.drew.alloc (.cells sgnCells 9) = w') := zh (by
      have h := among_any w1.heap.size 17 17 sgnR st (w1.drew.alloc (.cells sgnCells 9)) rfl (by omega) (fun k x hx => by
       rw [HB2.out.2.cell k, sgnCells, List.getElem?_toArray, List.getElem?_map, hx]; rfl)
      rw [ByteArray.toList_eq, amongR, <- HRK.out] at h
      exact h)
     go_wp2_with fail
     refine wp_region_plan (.q 1 (.q 2 (.a1 0 (.a1 3 (.q 4 .fin))))) 3 (fun W => Hid (W.cell? ⟨w.heap.size, 1, none⟩ = some (.string st))) (by kernel_rfl) rfl (by kernel_rfl) HF0 ?_
     refine wpPlan_q rfl rfl rfl ?_; intro K hK
     go_big_quiet_op
     first | go_big_quiet_on | (refine ⟨_, fun _ _ => rfl, ?_⟩; go_big_quiet_on)
     refine wpPlan_q rfl rfl rfl ?_; intro K hK
     refine ⟨(.string st), fun W hW => ?_, ?_⟩
     . have q0 := hW.out
       unfold Oper.quietAt Oper.quietUpon
       simp [go_sem, q0]
     refine hK _ ?_
     clear hK K
     try simp only [Act.put, List.setIfInBounds_toArray, List.set_cons_succ, List.set_cons_zero]
     refine wpPlan_act true rfl rfl rfl ?_; intro K hK
     go_simp
     refine (HSG.out _).mono ?_
     rintro e W2 ⟨rfl, hw2⟩
     subst hw2
     refine hK _ _ (fun _ => HF1) ?_
     clear hK K
     try simp only [Act.put, List.setIfInBounds_toArray, List.set_cons_succ, List.set_cons_zero]
     refine wpPlan_act false rfl rfl rfl ?_; intro K hK
     go_simp
     refine HAM.out.mono ?_
     rintro e W3 ⟨rfl, hw3⟩
     subst hw3
     refine hK _ _ (fun h => by cases h) ?_
     clear hK K
     try simp only [Act.put, List.setIfInBounds_toArray, List.set_cons_succ, List.set_cons_zero]
     refine wpPlan_p rfl rfl rfl ?_; intro K hK
     go_big_quiet_op
     first | go_big_quiet_on | (refine ⟨_, fun _ _ => rfl, ?_⟩; go_big_quiet_on)
     refine wpPlan_fin ?_
     go_wp2_with fail
     go_ret
     exact ⟨rfl, H1.out.1.trans (HB2.out.1.mono H1.out.1.size)⟩
   by_cases hk1 : kd = 1
   . have hk := hk1
     have m1 : ((kd : Int) == 1) = true := by simp [hk]
     have m2 : ((kd : Int) == 2) = false := by simp; omega
     have m3 : ((kd : Int) == 3) = false := by simp; omega
     have m4 : ((kd : Int) == 4) = false := by simp; omega
     obtain ⟨s, hs⟩ := ex st.data.toList
     have HRK : Hid (R = wordOk s) := zh (by rw [HR.out]; unfold rightB Tz.tx; dsimp only; rw [hk, hs]; simp [hiv])
     have HST : Hid (st = ⟨s.toArray⟩) := zh (by rw [hs])
     obtain ⟨n, hn⟩ := ex st.size
     have hsz : st.size = n := hn.symm
     have HN2 : Hid (s.length = n) := zh (by rw [hs, hn, Array.length_toList]; rfl)
     have HNE : Hid (n ≠ 0 -> (st.toList == []) = false) := zh (fun h => by
      rw [bfn]
      intro h2
      rw [ByteArray.toList_eq, <- hs] at h2
      have := HN2.out
      rw [h2] at this
      exact h this.symm)
     have HEQ : Hid (n = 0 -> (st.toList == []) = true) := zh (fun h => by
      rw [beq_iff_eq, ByteArray.toList_eq, <- hs]
      exact List.eq_nil_of_length_eq_zero (by have := HN2.out; omega))
     clear hn hs
     rw [hsz] at ht
     by_cases hn0 : n = 0
     . have e0 := HEQ.out hn0
       have HF : Hid (R = false) := zh (by rw [HRK.out, List.eq_nil_of_length_eq_zero (l := s) (by have := HN2.out; omega)]; rfl)
       clear hn0
       go_wp2_with fail
       go_ret
       exact ⟨ret_bool (by rw [HF.out]), H1.out.1⟩
     have e0 := HNE.out hn0
     have h0s : 0 < s.length := by have := HN2.out; omega
     obtain ⟨ch, r, hcr⟩ : ∃ c r, s = c :: r := by
      cases s with
      | nil => simp at h0s
      | cons c r => exact ⟨c, r, rfl⟩
     have HWD : Hid (wordOk s = (decide (s.length <= 24) && lowB ch && s.all innB)) := zh (by rw [hcr]; rfl)
     by_cases h24 : 24 < n
     . have dl : decide ((n : Int) > 24) = true := dqt (by omega)
       have dl' : decide (24 < n) = true := dqt h24
       have HF : Hid (R = false) := zh (by rw [HRK.out, HWD.out, dqf (by have := HN2.out; omega)]; rfl)
       clear hcr h0s hn0
       go_wp2_with fail
       go_ret
       exact ⟨ret_bool (by rw [HF.out]), H1.out.1⟩
     have dl : decide ((n : Int) > 24) = false := dqf (by omega)
     have dl' : decide (24 < n) = false := dqf h24
     have h0 : 0 < st.size := by omega
     have hg0 : st[0] = ch := by
      rw [st_get HST.out h0 h0s]
      simp [hcr]
     have HWD2 : Hid (R = (lowB ch && s.all innB)) := zh (by rw [HRK.out, HWD.out, dqt (by have := HN2.out; omega), Bool.true_and])
     have n0 : (0 : Int) < (n : Int) := by omega
     clear hcr h0s HWD
     go_wp2_with fail
     refine (low_any ch w1).mono ?_
     rintro e w4 ⟨rfl, hw4⟩
     subst hw4
     cases hlow : lowB ch
     . have HF : Hid (R = false) := zh (by rw [HWD2.out, hlow]; rfl)
       clear hlow
       go_wp2_with fail
       go_ret
       exact ⟨ret_bool (by rw [HF.out]), H1.out.1⟩
     have HF : Hid (R = s.all innB) := zh (by rw [HWD2.out, hlow]; rfl)
     obtain ⟨E, hE⟩ := ex (scan innB s 0)
     have HEL : Hid (E <= s.length ∧ R = decide (E = n)) := zh ⟨by rw [hE]; exact scan_le _ _ (Nat.zero_le _), by rw [HF.out, <- scan_all, hE, HN2.out]⟩
     have HWL : Hid (wordL s 0 = .inr (⟨1, cutL s 0 E, 0, 0⟩, E)) := zh (by unfold wordL; rw [<- hE, if_neg (by have := HEL.out.1; have := HN2.out; omega)])
     have HWO : Hid (Calls prog 93 #[.string st, .int .i64 0] w4 (ToldPost w4 (.inr (⟨1, cutL s 0 E, 0, 0⟩, E)))) := zh (by
      have h := word_any s 0 (by have := HN2.out; omega) (Nat.zero_le _) w4
      rw [HWL.out, <- HST.out] at h
      exact h)
     obtain ⟨cx, hcx⟩ : ∃ z, z = (⟨(cutL s 0 E).toArray⟩ : ByteArray) := ⟨_, rfl⟩
     have HTV : Hid (told (.inr (⟨1, cutL s 0 E, 0, 0⟩, E)) = .agg #[.int .u8 1, .string cx, .int .i64 0, .int .i64 0, .int .i64 (E : Nat), .int .i64 0, .int .i64 0]) := zh (by rw [hcx]; rfl)
     unfold ToldPost at HWO
     rw [HTV.out] at HWO
     clear hlow hg0 h0 hE hcx
     go_wp2_with fail
     refine HWO.out.mono ?_
     rintro e w5 ⟨rfl, hw5⟩
     have HB5 : Hid (Below w.heap.size w w5 ∧ Blk w5 w.heap.size 35 #[.int .u8 (kd : Nat), .string st, .int .i64 iv, .int .i64 pl]) := zh ⟨H1.out.1.trans (hw5.mono H1.out.1.size), H1.out.2.below hw5 H1.out.2.lt⟩
     clear hw5 k1 k0 k2
     have HB0 := zh (Blk.new w5 121 #[.int .u8 0, .string ⟨#[]⟩, .int .i64 0, .int .i64 0, .int .i64 0, .int .i64 0, .int .i64 0])
     have HL4 : Hid (Below w5.heap.size w5 (w5.alloc (.cells #[.int .u8 1, .string cx, .int .i64 0, .int .i64 0, .int .i64 (E : Nat), .int .i64 0, .int .i64 0] 121)) ∧ Blk (w5.alloc (.cells #[.int .u8 1, .string cx, .int .i64 0, .int .i64 0, .int .i64 (E : Nat), .int .i64 0, .int .i64 0] 121)) w5.heap.size 121 #[.int .u8 1, .string cx, .int .i64 0, .int .i64 0, .int .i64 (E : Nat), .int .i64 0, .int .i64 0]) := zh ⟨(Below.refl _ _).alloc (nlr _) _, Blk.new _ _ _⟩
     go_upto_region 12 with (first | (refine wpList_store_row rfl 121 (.tmp 3) (.tmp 55) rfl w5.heap.size #[.int .u8 1, .string cx, .int .i64 0, .int .i64 0, .int .i64 (E : Nat), .int .i64 0, .int .i64 0] rfl rfl 121 #[.int .u8 0, .string ⟨#[]⟩, .int .i64 0, .int .i64 0, .int .i64 0, .int .i64 0, .int .i64 0] HB0.out (by kernel_rfl) rfl (by kernel_rfl) ?_; rw [World.setRow_alloc_new]) | fail)
     have HB6 : Hid (Below w.heap.size w (w5.alloc (.cells #[.int .u8 1, .string cx, .int .i64 0, .int .i64 0, .int .i64 (E : Nat), .int .i64 0, .int .i64 0] 121)) ∧ Blk (w5.alloc (.cells #[.int .u8 1, .string cx, .int .i64 0, .int .i64 0, .int .i64 (E : Nat), .int .i64 0, .int .i64 0] 121)) w.heap.size 35 #[.int .u8 (kd : Nat), .string st, .int .i64 iv, .int .i64 pl] ∧ Blk (w5.alloc (.cells #[.int .u8 1, .string cx, .int .i64 0, .int .i64 0, .int .i64 (E : Nat), .int .i64 0, .int .i64 0] 121)) w5.heap.size 121 #[.int .u8 1, .string cx, .int .i64 0, .int .i64 0, .int .i64 (E : Nat), .int .i64 0, .int .i64 0]) := zh ⟨HB5.out.1.trans (HL4.out.1.mono HB5.out.1.size), HB5.out.2.below HL4.out.1 HB5.out.2.lt, HL4.out.2⟩
     generalize w5.heap.size = b5 at *
     generalize w5.alloc (.cells #[.int .u8 1, .string cx, .int .i64 0, .int .i64 0, .int .i64 (E : Nat), .int .i64 0, .int .i64 0] 121) = w6 at *
     have k1 : w6.cell? ⟨w.heap.size, 1, none⟩ = some (.string st) := HB6.out.2.1.cell 1
     have q4 : w6.cell? ⟨b5, 4, none⟩ = some (.int .i64 (E : Nat)) := HB6.out.2.2.cell 4
     go_wp2_with fail
     go_ret
     exact ⟨ret_bool (by rw [HEL.out.2, Bool.eq_iff_iff, beq_iff_eq, decide_eq_true_eq]; omega), HB6.out.1⟩
   have m1 : ((kd : Int) == 1) = false := by simp; omega
   have m2 : ((kd : Int) == 2) = false := by simp; omega
   have m3 : ((kd : Int) == 3) = false := by simp; omega
   have m4 : ((kd : Int) == 4) = false := by simp; omega
   have HRK : Hid (R = false) := zh (by rw [HR.out]; unfold rightB; dsimp only; rw [if_neg hk1, if_neg hk2, if_neg hk3, if_neg hk4])
   go_wp2_with fail
   go_ret
   exact ⟨ret_bool (by rw [HRK.out]), H1.out.1⟩
 . have e9 : (iv != 0) = true := by simp [hiv]
   have m2 : ((kd : Int) == 2) = false := by simp; omega
   have HRK : Hid (R = false) := zh (by rw [HR.out]; unfold rightB; dsimp only; rw [if_neg hk2]; simp [hiv])
   go_wp2_with fail
   go_ret
   exact ⟨ret_bool (by rw [HRK.out]), H1.out.1⟩
theorem dec_len' : ∀ (m u : Nat), u < 10 ^ (m + 1) -> (Lib.decDigits u).length <= m + 1
 | 0, u, h => by rw [Lib.decDigits, dif_pos (by simpa using h)]; simp
 | m + 1, u, h => by
  rw [Lib.decDigits]
  split
  . simp
  . have := dec_len' m (u / 10) (by rw [Nat.pow_succ] at h; omega)
    rw [lna, List.length_singleton]
    omega
theorem dec_len19 {u : Nat} (h : u <= 9223372036854775807) : (Lib.decDigits u).length <= 19 := dec_len' 18 u (by omega)
theorem dig_str (w : World) (d : Nat) (h : d < 10) (z : Int) (e : z = 48 + (d : Int)) : (convert 73 9 (.slice (some ⟨w.heap.size, 0, none⟩) 1 1)).run prog (w.alloc (.cells #[.int .u8 z] 5)) = .ok (.string ⟨#[UInt8.ofNat (48 + d)]⟩) (w.alloc (.cells #[.int .u8 z] 5)) := by
 have e2 : bcells [UInt8.ofNat (48 + d)] = [.int .u8 z] := by
  unfold bcells
  rw [List.map_cons, List.map_nil, UInt8.toNat_ofNat', Nat.mod_eq_of_lt (by omega), e]
  push_cast
  rfl
 exact run_str_own (w.alloc (.cells #[.int .u8 z] 5)) 73 9 5 w.heap.size (.slice (some ⟨w.heap.size, 0, none⟩) 1 1) 1 [UInt8.ofNat (48 + d)] underlying73 underlying5 underlying9 rfl
  (by rw [e2]; exact ⟨rfl, .inr ⟨w.heap.size, 1, #[.int .u8 z], rfl, nlr _, heap_alloc_new w _, nlr _, by unfold maxLen; omega, rfl, rfl⟩⟩)
theorem str_app (a b : List UInt8) : (⟨a.toArray⟩ : ByteArray) ++ ⟨b.toArray⟩ = ⟨(a ++ b).toArray⟩ := by
 apply ByteArray.ext
 rw [ByteArray.data_append]
 simp
set_option maxRecDepth 100000 in
theorem digits_any (x : Nat) (hx : x <= 9223372036854775807) (w : World) : Calls prog 52 #[.int .i64 (x : Nat)] w fun e w' => e = .returned (.string ⟨(Lib.decDigits x).toArray⟩) ∧ Below w.heap.size w w' := by
 obtain ⟨R, hR⟩ := ex (Lib.decDigits x)
 have HR := zh hR
 rw [<- hR]
 have HR0 : Hid (R.length <= 19) := zh (by rw [hR]; exact dec_len19 hx)
 clear hR
 go_in
 go_wp2_with fail
 go_loopw [0, 3] (fun s0 s3 wr => ∃ (y : Nat) (acc : List UInt8), s0 = .int .i64 (y : Nat) ∧ s3 = .string ⟨acc.toArray⟩ ∧ y <= x ∧ Lib.decDigits y ++ acc = R ∧ Below w.heap.size w wr) (fun s0 _ _ => (intOf s0).toNat)
 case atStart => exact ⟨x, [], rfl, rfl, nlr _, by rw [HR.out, List.append_nil], Below.refl _ _⟩
 case round =>
  obtain ⟨y, acc, rfl, rfl, hyx, hd, hb⟩ := hrel
  have HD := zh hd
  have HB := zh hb
  have hal : acc.length <= 100 := by
   have h1 := congrArg List.length HD.out
   have h2 := HR0.out
   rw [lna] at h1
   omega
  obtain ⟨st, hst⟩ : ∃ z, z = (⟨acc.toArray⟩ : ByteArray) := ⟨_, rfl⟩
  have HST := zh hst
  have hsz : st.size = acc.length := by rw [hst]; rfl
  obtain ⟨m, hm⟩ := ex acc.length
  rw [<- hm] at hal hsz
  rw [<- hst]
  clear hd hb hst hm
  by_cases h9 : 9 < y
  . have d9 : decide ((y : Int) > 9) = true := dqt (by omega)
    have d9' : decide (9 < y) = true := dqt h9
    obtain ⟨ch, hch⟩ : ∃ z, z = UInt8.ofNat (48 + y % 10) := ⟨_, rfl⟩
    have HS := zh (dig_str wr (y % 10) (by omega) (48 + (y : Int) % 10) (by omega))
    rw [<- hch] at HS
    have HB1 : Hid (Below w.heap.size w (wr.alloc (.cells #[.int .u8 (48 + (y : Int) % 10)] 5))) := zh (HB.out.alloc HB.out.size _)
    have HE : Hid (Lib.decDigits (y / 10) ++ ([ch] ++ acc) = R) := zh (by
     have h := HD.out
     rw [Lib.decDigits, dif_neg (by omega), <- hch, List.append_assoc] at h
     exact h)
    have HX : Hid ((⟨#[ch]⟩ : ByteArray) ++ st = ⟨([ch] ++ acc).toArray⟩) := zh (by rw [HST.out]; exact str_app [ch] acc)
    clear hch
    go_upto_region 4 with fail
    rw [HS.out]
    simp only [Result.andThen]
    rw [Oper.upon_value]
    generalize wr.alloc (.cells #[.int .u8 (48 + (y : Int) % 10)] 5) = w2 at *
    go_wp2_with fail
    go_roundw
    case rel => exact ⟨y / 10, [ch] ++ acc, by simp, by rw [HX.out], by omega, HE.out, HB1.out⟩
    case measure => simp [intOf]; omega
  . have d9 : decide ((y : Int) > 9) = false := dqf (by omega)
    have d9' : decide (9 < y) = false := dqf h9
    obtain ⟨ch, hch⟩ : ∃ z, z = UInt8.ofNat (48 + y) := ⟨_, rfl⟩
    have HS := zh (dig_str wr y (by omega) (48 + (y : Int)) (by omega))
    rw [<- hch] at HS
    have HB1 : Hid (Below w.heap.size w (wr.alloc (.cells #[.int .u8 (48 + (y : Int))] 5))) := zh (HB.out.alloc HB.out.size _)
    have HX : Hid ((⟨#[ch]⟩ : ByteArray) ++ st = ⟨R.toArray⟩) := zh (by
     have h := HD.out
     rw [Lib.decDigits, dif_pos (by omega), <- hch] at h
     rw [HST.out, <- h]
     exact str_app [ch] acc)
    clear hch
    go_wp2_with fail
    rw [HS.out]
    simp only [Result.andThen]
    rw [Oper.upon_value]
    generalize wr.alloc (.cells #[.int .u8 (48 + (y : Int))] 5) = w2 at *
    go_wp2_with fail
    go_ret
    exact ⟨by rw [<- HX.out]; rfl, HB1.out⟩
theorem spF_app (f : Bool) (l m : List Tz) : spF f (l ++ m) = spF f l ++ spF (f || !l.isEmpty) m := by
 induction l generalizing f with
 | nil => simp [spF]
 | cons x l ih => rw [List.cons_append, spF, ih true, spF]; simp
theorem spF_pre (l : List Tz) (k : Nat) : (spF false (l.take k)).length <= (spF false l).length := by
 have h := spF_app false (l.take k) (l.drop k)
 rw [List.take_append_drop] at h
 rw [h, lna]
 omega
set_option maxRecDepth 100000 in
theorem rspell_any (A : Option Addr) (c : Nat) (l : List Tz) (w : World) (hrd : RdZ w A l) (hlen : l.length <= 1000000) (hok : ∀ x ∈ l, TzOk x) :
 Calls prog 25 #[.slice A l.length c] w (SpellPost w l) := by
 obtain ⟨i0, hi0, hz0, hz1, hz2⟩ := info_parts Tryd.info5
 have HI := zh (ai hi0 (ai hz0 (ai hz1 hz2)))
 clear hi0 hz0 hz1 hz2
 obtain ⟨n, hn⟩ := ex l.length
 have HH := zh (ai hrd (ai hn hok))
 rw [<- hn] at hlen |-
 clear hrd hn hok
 obtain ⟨Al, hAl⟩ := ex A
 rw [<- hAl] at HH |-
 clear hAl A
 go_in
 go_wp2_with fail
 go_loopw [4] (fun s4 wr => ∃ k : Nat, s4 = .int .i64 (k : Nat) ∧ k <= n ∧ (l.take k).all rightB = true ∧ Below w.heap.size w wr) (fun s4 _ => n - (intOf s4).toNat)
 case atStart => exact ⟨0, rfl, by omega, rfl, Below.refl _ _⟩
 case round =>
  obtain ⟨k, rfl, hk, hall, hb⟩ := hrel
  have HALL := zh hall
  have HB := zh hb
  clear hall hb
  by_cases hlt : k < n
  . have di : decide ((k : Int) < (n : Int)) = true := dqt (by omega)
    obtain ⟨x0, hx⟩ : ∃ x, l[k]? = some x := ⟨_, List.getElem?_eq_getElem (by have := HH.out.2.1; omega)⟩
    obtain ⟨bb, off, hA, _, hcell⟩ := toks_at (HH.out.1.below HB.out) hx
    subst hA
    have HOK : Hid (TzOk x0) := zh (HH.out.2.2 _ (List.mem_of_getElem? hx))
    have HTK : Hid (l.take (k + 1) = l.take k ++ [x0]) := zh (by rw [List.take_add_one, hx]; rfl)
    have HMEM : Hid (x0 ∈ l) := zh (List.mem_of_getElem? hx)
    have HRG : Hid (wr.rangeAt bb (off + k * 4) (zcell x0)) := zh (fun jj u hu => hcell jj u hu)
    clear hx hcell
    obtain ⟨x, hxe⟩ := ex x0
    obtain ⟨kd, st, iv, pl⟩ := x
    have HX0 : Hid (x0 = ⟨kd, st, iv, pl⟩) := zh hxe.symm
    rw [<- hxe] at HRG
    clear hxe
    dsimp only [zcell] at HRG
    have n0 : (0 : Int) <= (k : Int) := by omega
    have n1 : (k : Int) < (n : Int) := by omega
    have HMY : Hid (Calls prog 51 #[.agg #[.int .u8 (kd : Nat), .string st, .int .i64 iv, .int .i64 pl]] wr fun e w' => e = .returned (.bool (rightB x0)) ∧ Below wr.heap.size wr w') := zh (by
     have := may_any x0 wr HOK.out
     rw [HX0.out] at this |-
     exact this)
    obtain ⟨R, hR⟩ := ex (rightB x0)
    have HRR := zh hR
    rw [<- hR] at HMY
    clear hR
    go_wp2_with (first | (refine wpList_load_mid rfl 35 (.tmp 16) rfl bb (off + k * 4) rfl [.int .u8 (kd : Nat), .string st, .int .i64 iv, .int .i64 pl] (.struct _) HRG.out underlying35 rfl (by kernel_rfl) ?_) | fail)
    refine HMY.out.mono ?_
    rintro e w2 ⟨rfl, hb2⟩
    have HB2 := zh (HB.out.trans (hb2.mono HB.out.size))
    clear hb2
    cases R with
    | false =>
     have HF : Hid (spellL l = ([], 3)) := zh (by
      unfold spellL
      have : l.all rightB = false := by
       rw [List.all_eq_false]
       exact ⟨x0, HMEM.out, by rw [<- HRR.out]; decide⟩
      rw [this]; rfl)
     go_wp2_with fail
     go_ret2
     exact ⟨by rw [HF.out]; rfl, HB2.out⟩
    | true =>
     go_wp2_with fail
     go_roundw
     case rel => exact ⟨k + 1, by go_num, by omega, by rw [HTK.out, List.all_append, HALL.out]; simp [<- HRR.out], HB2.out⟩
     case measure => simp [intOf]; omega
  . have di : decide ((k : Int) < (n : Int)) = false := dqf (by omega)
    have HALR : Hid (l.all rightB = true) := zh (by
     have h := HALL.out
     rw [List.take_of_length_le (by rw [<- HH.out.2.1]; omega)] at h
     exact h)
    go_wp2_with fail
    have HB0 := HB
    generalize wr = w0 at *
    clear HB HALL di hlt hk
    go_loopw [6, 5, 7] (fun s6 s5 _ wr => ∃ (k : Nat) (b : List UInt8) (A : Option Addr) (cap : Nat), s6 = .int .i64 (k : Nat) ∧ s5 = .slice A b.length cap ∧ k <= n ∧ spF false (l.take k) = b ∧ b.length <= 16384 ∧ wr.ownsRow w.heap.size 5 1 (.slice A b.length cap) b.length (bcells b) ∧ Below w.heap.size w wr) (fun s6 _ _ _ => n - (intOf s6).toNat)
    case atStart => exact ⟨0, [], none, 0, rfl, rfl, by omega, rfl, by simp, World.ownsRow_nil _ _ _ _, HB0.out⟩
    case round =>
     clear HB0
     obtain ⟨k, b, A, cap, rfl, rfl, hk, hbd, hbl, ho, hb⟩ := hrel
     have HB := zh hb
     obtain ⟨m, hm⟩ := ex b.length
     rw [<- hm] at ho hbl |-
     have HO := zh ho
     have HM := zh hm
     have HBD := zh hbd
     have HTE : Hid (k < n -> (l.take k).isEmpty = decide (k = 0)) := zh (fun hkn => by
      have : (l.take k).length = k := by rw [List.length_take]; have := HH.out.2.1; omega
      cases hq : l.take k with
      | nil => rw [hq] at this; simp at this; simp [<- this]
      | cons y r => rw [hq] at this; simp at this; simp; omega)
     clear hbd hb ho hm
     by_cases hlt : k < n
     . have di : decide ((k : Int) < (n : Int)) = true := dqt (by omega)
       have HTE' := zh (HTE.out hlt)
       clear HTE
       have HTE := HTE'
       clear HTE'
       obtain ⟨x0, hx⟩ : ∃ x, l[k]? = some x := ⟨_, List.getElem?_eq_getElem (by have := HH.out.2.1; omega)⟩
       obtain ⟨bb, off, hA, _, hcell⟩ := toks_at (HH.out.1.below HB.out) hx
       subst hA
       have HOK : Hid (TzOk x0) := zh (HH.out.2.2 _ (List.mem_of_getElem? hx))
       have HTK : Hid (l.take (k + 1) = l.take k ++ [x0]) := zh (by rw [List.take_add_one, hx]; rfl)
       have HMEM : Hid (x0 ∈ l) := zh (List.mem_of_getElem? hx)
       have HRG : Hid (wr.rangeAt bb (off + k * 4) (zcell x0)) := zh (fun jj u hu => hcell jj u hu)
       clear hx hcell
       obtain ⟨x, hxe⟩ := ex x0
       obtain ⟨kd, st, iv, pl⟩ := x
       have HX0 : Hid (x0 = ⟨kd, st, iv, pl⟩) := zh hxe.symm
       rw [<- hxe] at HRG
       clear hxe
       dsimp only [zcell] at HRG
       have n0 : (0 : Int) <= (k : Int) := by omega
       have n1 : (k : Int) < (n : Int) := by omega
       have HLTW : Hid (bb < w.heap.size) := zh (by
        rcases HH.out.1 with h | ⟨b', off', e1, e2, _⟩
        . have := HMEM.out; rw [h] at this; cases this
        . injection e1 with e1; injection e1 with e1 e3; rw [e1]; exact e2)
       have HLT : Hid (bb < wr.heap.size) := zh (Nat.lt_of_lt_of_le HLTW.out HB.out.size)
       by_cases hk0 : k = 0
       . have dk : decide ((k : Int) > 0) = false := dqf (by omega)
         have dk' : decide (0 < k) = false := dqf (by omega)
         obtain ⟨b2, hb2⟩ : ∃ z, z = b := ⟨_, rfl⟩
         obtain ⟨A2, hA2⟩ : ∃ z, z = A := ⟨_, rfl⟩
         obtain ⟨cap2, hc2⟩ : ∃ z, z = cap := ⟨_, rfl⟩
         obtain ⟨m2, hm2⟩ : ∃ z, z = m := ⟨_, rfl⟩
         have HB2D : Hid (b2 = b ++ (if false || !(l.take k).isEmpty then [32] else [])) := zh (by rw [hb2, HTE.out, dqt hk0]; simp)
         have HM2 : Hid (m2 = b2.length) := zh (by rw [hm2, hb2]; exact HM.out)
         have hm2l : m2 <= 16385 := by omega
         have HO2 : Hid (wr.ownsRow w.heap.size 5 1 (.slice A2 m2 cap2) m2 (bcells b2)) := zh (by rw [hA2, hm2, hc2, hb2]; exact HO.out)
         have HBX := HB
         have HRG2 := HRG
         rw [<- hA2, <- hm2, <- hc2]
         clear hA2 hm2 hc2 hb2 hk0
         go_upto_region 12 with fail
         generalize wr = W at *
         have g1 : W.cell? ⟨bb, off + k * 4 + 1, none⟩ = some (.string st) := HRG2.out 1 _ rfl
         have g0 : W.cell? ⟨bb, off + k * 4, none⟩ = some (.int .u8 (kd : Nat)) := HRG2.out 0 _ rfl
         have g2 : W.cell? ⟨bb, off + k * 4 + 2, none⟩ = some (.int .i64 iv) := HRG2.out 2 _ rfl
         have HRX : Hid (rightB x0 = true) := zh (List.all_eq_true.1 HALR.out x0 HMEM.out)
         by_cases hk2 : kd = 2
         . have e2 : ((kd : Int) == 2) = true := by simp [hk2]
           have e3 : ((kd : Int) == 3) = false := by simp; omega
           have HIV : Hid (0 <= iv ∧ iv <= 9223372036854775807) := zh (by
            have h := HRX.out
            have h2 := HOK.out.i.2
            rw [HX0.out] at h h2
            unfold rightB at h
            dsimp only at h h2
            rw [if_neg (by omega), if_pos hk2, Bool.and_eq_true, decide_eq_true_eq, decide_eq_true_eq] at h
            exact ⟨h.2, h2⟩)
           obtain ⟨xn, hxn⟩ : ∃ z : Nat, iv = (z : Int) := ⟨iv.toNat, by have := HIV.out.1; omega⟩
           have HSP : Hid (spellT x0 = Lib.decDigits xn) := zh (by
            unfold spellT
            rw [HX0.out]
            dsimp only
            rw [if_pos hk2, hxn]
            unfold Lib.itoa
            rw [if_neg (by omega), Int.toNat_natCast])
           have HXN : Hid (xn <= 9223372036854775807) := zh (by have := HIV.out.2; omega)
           have HSV : Hid ((⟨(Lib.decDigits xn).toArray⟩ : ByteArray).data.toList = spellT x0 ∧ (⟨(Lib.decDigits xn).toArray⟩ : ByteArray).size <= 17000) := zh ⟨by rw [HSP.out], by have := dec_len19 HXN.out; show (Lib.decDigits xn).length <= _; omega⟩
           have HCL := zh (digits_any xn HXN.out W)
           rw [hxn] at g2
           clear hk2
           go_wp2_with fail
           refine HCL.out.mono ?_
           rintro e W3 ⟨rfl, hw3⟩
           have HO23 : Hid (W3.ownsRow w.heap.size 5 1 (.slice A2 m2 cap2) m2 (bcells b2)) := zh (own_below HO2.out hw3)
           have HBX3 : Hid (Below w.heap.size w W3) := zh (HBX.out.trans (hw3.mono HBX.out.size))
           have HRG3 : Hid (W3.rangeAt bb (off + k * 4) [.int .u8 (kd : Nat), .string st, .int .i64 iv, .int .i64 pl]) := zh (fun jj u hu => (World.cell?_of_block (hw3.block _ (Nat.lt_of_lt_of_le HLTW.out HBX.out.size))).trans (HRG2.out jj u hu))
           have g0 : W3.cell? ⟨bb, off + k * 4, none⟩ = some (.int .u8 (kd : Nat)) := HRG3.out 0 _ rfl
           clear hw3 HO2 HBX HRG2 HCL
           have HO2 := HO23
           have HBX := HBX3
           generalize W3 = W at *
           obtain ⟨hi0, hz0, hz1, hz2⟩ := HI.out
           go_upto_region 18 with (at_builtin; refine Lib.wpList_append_own_string _ rfl _ _ 73 9 rfl w.heap.size 5 i0 underlying73 underlying9 hi0 hz0 hz1 hz2 _ _ _ rfl HO2.out ⟨(Lib.decDigits xn).toArray⟩ rfl (by unfold maxLen; have := HSV.out.2; omega) (by have := HSV.out.2; omega) HBX.out.size ?_; intro v4 W4 ho4 hg4 _; obtain ⟨A4, cap4, rfl, _⟩ := own_form ho4; have HO4 := zh ho4; have HG4 := zh hg4; clear ho4 hg4; obtain ⟨m4, hm4⟩ : ∃ z, z = m2 + (⟨(Lib.decDigits xn).toArray⟩ : ByteArray).size := ⟨_, rfl⟩; have HM44 := zh hm4; rw [<- hm4]; clear hm4)
           have HB4 : Hid (Below w.heap.size w W4) := zh (HBX.out.grown HG4.out HBX.out.size (fun g hg => (World.ownsRow.lt HO2.out g hg).1))
           have HBC : Hid (spF false (l.take (k + 1)) = b2 ++ (⟨(Lib.decDigits xn).toArray⟩ : ByteArray).data.toList) := zh (by rw [HTK.out, spF_append, HBD.out, <- List.append_assoc, <- HB2D.out, HSV.out.1])
           have HM4 : Hid (m4 = (b2 ++ (⟨(Lib.decDigits xn).toArray⟩ : ByteArray).data.toList).length) := zh (by rw [HM44.out, lna, HM2.out, Array.length_toList]; rfl)
           have hm45 : m4 <= 40000 := by have := HSV.out.2; have := HM44.out; omega
           have HO5 : Hid (W4.ownsRow w.heap.size 5 1 (.slice A4 m4 cap4) m4 (bcells (b2 ++ (⟨(Lib.decDigits xn).toArray⟩ : ByteArray).data.toList))) := zh (by rw [HM44.out, bcells_append]; exact HO4.out)
           by_cases hbig : 16384 < m4
           . have db : decide ((m4 : Int) > 16384) = true := dqt (by omega)
             have db' : decide (16384 < m4) = true := dqt hbig
             have HF : Hid (spellL l = ([], 2)) := zh (by
              unfold spellL
              rw [HALR.out, if_pos rfl, if_pos]
              have h := spF_pre l (k + 1)
              rw [HBC.out, <- HM4.out] at h
              omega)
             go_wp2_with fail
             go_ret2
             exact ⟨by rw [HF.out]; rfl, HB4.out⟩
           . have db : decide ((m4 : Int) > 16384) = false := dqf (by omega)
             have db' : decide (16384 < m4) = false := dqf hbig
             go_wp2_with fail
             go_roundw
             case rel => exact ⟨k + 1, b2 ++ (⟨(Lib.decDigits xn).toArray⟩ : ByteArray).data.toList, A4, cap4, by go_num, by rw [<- HM4.out], by omega, HBC.out, by rw [<- HM4.out]; omega, by rw [<- HM4.out]; exact HO5.out, HB4.out⟩
             case measure => simp [intOf]; omega
         . have e2 : ((kd : Int) == 2) = false := by simp; omega
           by_cases hk3 : kd = 3
           . have e3 : ((kd : Int) == 3) = true := by simp [hk3]
             have HSP : Hid (spellT x0 = quoteL st.data.toList) := zh (by unfold spellT Tz.tx; rw [HX0.out]; dsimp only; rw [if_neg (by omega), if_pos hk3])
             have HTX : Hid (st.data.toList.length <= 4095) := zh (by
              have h := HRX.out
              unfold rightB Tz.tx at h
              rw [HX0.out] at h
              dsimp only at h
              rw [if_neg (by omega), if_neg (by omega), if_pos hk3, Bool.and_eq_true, decide_eq_true_eq] at h
              exact h.1)
             have HSV : Hid ((⟨(quoteL st.data.toList).toArray⟩ : ByteArray).data.toList = spellT x0 ∧ (⟨(quoteL st.data.toList).toArray⟩ : ByteArray).size <= 17000) := zh ⟨by rw [HSP.out], by have := quote_len st.data.toList; have := HTX.out; show (quoteL st.data.toList).length <= _; omega⟩
             have HCL : Hid (Calls prog 53 #[.string st] W fun e w' => e = .returned (.string ⟨(quoteL st.data.toList).toArray⟩) ∧ Below W.heap.size W w') := zh (by
              have := rquoted_any st.data.toList (by have := HTX.out; omega) W
              simpa using this)
             clear hk3
             go_wp2_with fail
             refine HCL.out.mono ?_
             rintro e W3 ⟨rfl, hw3⟩
             have HO23 : Hid (W3.ownsRow w.heap.size 5 1 (.slice A2 m2 cap2) m2 (bcells b2)) := zh (own_below HO2.out hw3)
             have HBX3 : Hid (Below w.heap.size w W3) := zh (HBX.out.trans (hw3.mono HBX.out.size))
             have HRG3 : Hid (W3.rangeAt bb (off + k * 4) [.int .u8 (kd : Nat), .string st, .int .i64 iv, .int .i64 pl]) := zh (fun jj u hu => (World.cell?_of_block (hw3.block _ (Nat.lt_of_lt_of_le HLTW.out HBX.out.size))).trans (HRG2.out jj u hu))
             have g0 : W3.cell? ⟨bb, off + k * 4, none⟩ = some (.int .u8 (kd : Nat)) := HRG3.out 0 _ rfl
             clear hw3 HO2 HBX HRG2 HCL
             have HO2 := HO23
             have HBX := HBX3
             generalize W3 = W at *
             obtain ⟨hi0, hz0, hz1, hz2⟩ := HI.out
             go_upto_region 18 with (at_builtin; refine Lib.wpList_append_own_string _ rfl _ _ 73 9 rfl w.heap.size 5 i0 underlying73 underlying9 hi0 hz0 hz1 hz2 _ _ _ rfl HO2.out ⟨(quoteL st.data.toList).toArray⟩ rfl (by unfold maxLen; have := HSV.out.2; omega) (by have := HSV.out.2; omega) HBX.out.size ?_; intro v4 W4 ho4 hg4 _; obtain ⟨A4, cap4, rfl, _⟩ := own_form ho4; have HO4 := zh ho4; have HG4 := zh hg4; clear ho4 hg4; obtain ⟨m4, hm4⟩ : ∃ z, z = m2 + (⟨(quoteL st.data.toList).toArray⟩ : ByteArray).size := ⟨_, rfl⟩; have HM44 := zh hm4; rw [<- hm4]; clear hm4)
             have HB4 : Hid (Below w.heap.size w W4) := zh (HBX.out.grown HG4.out HBX.out.size (fun g hg => (World.ownsRow.lt HO2.out g hg).1))
             have HBC : Hid (spF false (l.take (k + 1)) = b2 ++ (⟨(quoteL st.data.toList).toArray⟩ : ByteArray).data.toList) := zh (by rw [HTK.out, spF_append, HBD.out, <- List.append_assoc, <- HB2D.out, HSV.out.1])
             have HM4 : Hid (m4 = (b2 ++ (⟨(quoteL st.data.toList).toArray⟩ : ByteArray).data.toList).length) := zh (by rw [HM44.out, lna, HM2.out, Array.length_toList]; rfl)
             have hm45 : m4 <= 40000 := by have := HSV.out.2; have := HM44.out; omega
             have HO5 : Hid (W4.ownsRow w.heap.size 5 1 (.slice A4 m4 cap4) m4 (bcells (b2 ++ (⟨(quoteL st.data.toList).toArray⟩ : ByteArray).data.toList))) := zh (by rw [HM44.out, bcells_append]; exact HO4.out)
             by_cases hbig : 16384 < m4
             . have db : decide ((m4 : Int) > 16384) = true := dqt (by omega)
               have db' : decide (16384 < m4) = true := dqt hbig
               have HF : Hid (spellL l = ([], 2)) := zh (by
                unfold spellL
                rw [HALR.out, if_pos rfl, if_pos]
                have h := spF_pre l (k + 1)
                rw [HBC.out, <- HM4.out] at h
                omega)
               go_wp2_with fail
               go_ret2
               exact ⟨by rw [HF.out]; rfl, HB4.out⟩
             . have db : decide ((m4 : Int) > 16384) = false := dqf (by omega)
               have db' : decide (16384 < m4) = false := dqf hbig
               go_wp2_with fail
               go_roundw
               case rel => exact ⟨k + 1, b2 ++ (⟨(quoteL st.data.toList).toArray⟩ : ByteArray).data.toList, A4, cap4, by go_num, by rw [<- HM4.out], by omega, HBC.out, by rw [<- HM4.out]; omega, by rw [<- HM4.out]; exact HO5.out, HB4.out⟩
               case measure => simp [intOf]; omega
           . have e3 : ((kd : Int) == 3) = false := by simp; omega
             have HSV : Hid (st.data.toList = spellT x0 ∧ st.size <= 17000) := zh (by
              have h1 : st.data.toList.length <= 24 := right_len HRX.out (by rw [HX0.out]; exact hk2) (by rw [HX0.out]; exact hk3) (by rw [HX0.out]; rfl)
              rw [Array.length_toList] at h1
              exact ⟨by unfold spellT Tz.tx; rw [HX0.out]; dsimp only; rw [if_neg hk2, if_neg hk3], by show st.data.size <= _; omega⟩)
             obtain ⟨hi0, hz0, hz1, hz2⟩ := HI.out
             go_upto_region 18 with (at_builtin; refine Lib.wpList_append_own_string _ rfl _ _ 73 9 rfl w.heap.size 5 i0 underlying73 underlying9 hi0 hz0 hz1 hz2 _ _ _ rfl HO2.out st rfl (by unfold maxLen; have := HSV.out.2; omega) (by have := HSV.out.2; omega) HBX.out.size ?_; intro v4 W4 ho4 hg4 _; obtain ⟨A4, cap4, rfl, _⟩ := own_form ho4; have HO4 := zh ho4; have HG4 := zh hg4; clear ho4 hg4; obtain ⟨m4, hm4⟩ : ∃ z, z = m2 + st.size := ⟨_, rfl⟩; have HM44 := zh hm4; rw [<- hm4]; clear hm4)
             have HB4 : Hid (Below w.heap.size w W4) := zh (HBX.out.grown HG4.out HBX.out.size (fun g hg => (World.ownsRow.lt HO2.out g hg).1))
             have HBC : Hid (spF false (l.take (k + 1)) = b2 ++ st.data.toList) := zh (by rw [HTK.out, spF_append, HBD.out, <- List.append_assoc, <- HB2D.out, HSV.out.1])
             have HM4 : Hid (m4 = (b2 ++ st.data.toList).length) := zh (by rw [HM44.out, lna, HM2.out, Array.length_toList]; rfl)
             have hm45 : m4 <= 40000 := by have := HSV.out.2; have := HM44.out; omega
             have HO5 : Hid (W4.ownsRow w.heap.size 5 1 (.slice A4 m4 cap4) m4 (bcells (b2 ++ st.data.toList))) := zh (by rw [HM44.out, bcells_append]; exact HO4.out)
             by_cases hbig : 16384 < m4
             . have db : decide ((m4 : Int) > 16384) = true := dqt (by omega)
               have db' : decide (16384 < m4) = true := dqt hbig
               have HF : Hid (spellL l = ([], 2)) := zh (by
                unfold spellL
                rw [HALR.out, if_pos rfl, if_pos]
                have h := spF_pre l (k + 1)
                rw [HBC.out, <- HM4.out] at h
                omega)
               go_wp2_with fail
               go_ret2
               exact ⟨by rw [HF.out]; rfl, HB4.out⟩
             . have db : decide ((m4 : Int) > 16384) = false := dqf (by omega)
               have db' : decide (16384 < m4) = false := dqf hbig
               go_wp2_with fail
               go_roundw
               case rel => exact ⟨k + 1, b2 ++ st.data.toList, A4, cap4, by go_num, by rw [<- HM4.out], by omega, HBC.out, by rw [<- HM4.out]; omega, by rw [<- HM4.out]; exact HO5.out, HB4.out⟩
               case measure => simp [intOf]; omega
       . have dk : decide ((k : Int) > 0) = true := dqt (by omega)
         have dk' : decide (0 < k) = true := dqt (by omega)
         obtain ⟨hi0, hz0, hz1, hz2⟩ := HI.out
         go_upto_region 12 with (at_builtin; refine wpList_append_own _ rfl (.tmp 28) (.tmp 29) 73 rfl w.heap.size 5 i0 (.int .u8 0) 1 1 underlying73 hi0 hz0 hz1 hz2 rfl (by decide) (.slice A m cap) m (bcells b) rfl (HO.out.alloc _) ⟨wr.heap.size, 0, none⟩ 1 1 [.int .u8 32] rfl rfl (cells_new _ _ _) (by intro u hu; rw [List.mem_singleton] at hu; subst hu; rfl) (by unfold maxLen; omega) (by omega) (by have := HB.out.size; simp; omega) ?_; intro v3 W ho3 hg3 _; obtain ⟨A2, cap2, rfl, _⟩ := own_form ho3; have HO3 := zh ho3; have HG3 := zh hg3; clear ho3 hg3)
         have HBX : Hid (Below w.heap.size w W) := zh ((HB.out.alloc HB.out.size _).grown HG3.out (by have := HB.out.size; simp; omega) (fun g hg => (World.ownsRow.lt HO.out g hg).1))
         obtain ⟨b2, hb2⟩ : ∃ z, z = b ++ [32] := ⟨_, rfl⟩
         obtain ⟨m2, hm2⟩ : ∃ z, z = m + 1 := ⟨_, rfl⟩
         have HB2D : Hid (b2 = b ++ (if false || !(l.take k).isEmpty then [32] else [])) := zh (by rw [hb2, HTE.out, dqf hk0]; simp)
         have HM2 : Hid (m2 = b2.length) := zh (by rw [hm2, hb2, lna, <- HM.out]; rfl)
         have hm2l : m2 <= 16385 := by omega
         have HO2 : Hid (W.ownsRow w.heap.size 5 1 (.slice A2 m2 cap2) m2 (bcells b2)) := zh (by rw [hm2, hb2, bcells_append]; exact HO3.out)
         have HBLK : Hid (W.heap[bb]? = wr.heap[bb]?) := zh ((HG3.out.block bb (by simp; have := HLT.out; omega) (fun e => by have h1 := (World.ownsRow.lt HO.out bb e.symm).1; have h2 := HLTW.out; omega)).trans (((Below.refl wr.heap.size wr).alloc (nlr _) (.cells #[.int .u8 32] 5)).block bb HLT.out))
         have HRG2 : Hid (W.rangeAt bb (off + k * 4) [.int .u8 (kd : Nat), .string st, .int .i64 iv, .int .i64 pl]) := zh (fun jj u hu => (World.cell?_of_block (a := ⟨bb, off + k * 4 + jj, none⟩) HBLK.out).trans (HRG.out jj u hu))
         try rw [<- hm2]
         clear hm2 hb2 hk0
         have g1 : W.cell? ⟨bb, off + k * 4 + 1, none⟩ = some (.string st) := HRG2.out 1 _ rfl
         have g0 : W.cell? ⟨bb, off + k * 4, none⟩ = some (.int .u8 (kd : Nat)) := HRG2.out 0 _ rfl
         have g2 : W.cell? ⟨bb, off + k * 4 + 2, none⟩ = some (.int .i64 iv) := HRG2.out 2 _ rfl
         have HRX : Hid (rightB x0 = true) := zh (List.all_eq_true.1 HALR.out x0 HMEM.out)
         by_cases hk2 : kd = 2
         . have e2 : ((kd : Int) == 2) = true := by simp [hk2]
           have e3 : ((kd : Int) == 3) = false := by simp; omega
           have HIV : Hid (0 <= iv ∧ iv <= 9223372036854775807) := zh (by
            have h := HRX.out
            have h2 := HOK.out.i.2
            rw [HX0.out] at h h2
            unfold rightB at h
            dsimp only at h h2
            rw [if_neg (by omega), if_pos hk2, Bool.and_eq_true, decide_eq_true_eq, decide_eq_true_eq] at h
            exact ⟨h.2, h2⟩)
           obtain ⟨xn, hxn⟩ : ∃ z : Nat, iv = (z : Int) := ⟨iv.toNat, by have := HIV.out.1; omega⟩
           have HSP : Hid (spellT x0 = Lib.decDigits xn) := zh (by
            unfold spellT
            rw [HX0.out]
            dsimp only
            rw [if_pos hk2, hxn]
            unfold Lib.itoa
            rw [if_neg (by omega), Int.toNat_natCast])
           have HXN : Hid (xn <= 9223372036854775807) := zh (by have := HIV.out.2; omega)
           have HSV : Hid ((⟨(Lib.decDigits xn).toArray⟩ : ByteArray).data.toList = spellT x0 ∧ (⟨(Lib.decDigits xn).toArray⟩ : ByteArray).size <= 17000) := zh ⟨by rw [HSP.out], by have := dec_len19 HXN.out; show (Lib.decDigits xn).length <= _; omega⟩
           have HCL := zh (digits_any xn HXN.out W)
           rw [hxn] at g2
           clear hk2
           go_wp2_with fail
           refine HCL.out.mono ?_
           rintro e W3 ⟨rfl, hw3⟩
           have HO23 : Hid (W3.ownsRow w.heap.size 5 1 (.slice A2 m2 cap2) m2 (bcells b2)) := zh (own_below HO2.out hw3)
           have HBX3 : Hid (Below w.heap.size w W3) := zh (HBX.out.trans (hw3.mono HBX.out.size))
           have HRG3 : Hid (W3.rangeAt bb (off + k * 4) [.int .u8 (kd : Nat), .string st, .int .i64 iv, .int .i64 pl]) := zh (fun jj u hu => (World.cell?_of_block (hw3.block _ (Nat.lt_of_lt_of_le HLTW.out HBX.out.size))).trans (HRG2.out jj u hu))
           have g0 : W3.cell? ⟨bb, off + k * 4, none⟩ = some (.int .u8 (kd : Nat)) := HRG3.out 0 _ rfl
           clear hw3 HO2 HBX HRG2 HCL
           have HO2 := HO23
           have HBX := HBX3
           generalize W3 = W at *
           obtain ⟨hi0, hz0, hz1, hz2⟩ := HI.out
           go_upto_region 18 with (at_builtin; refine Lib.wpList_append_own_string _ rfl _ _ 73 9 rfl w.heap.size 5 i0 underlying73 underlying9 hi0 hz0 hz1 hz2 _ _ _ rfl HO2.out ⟨(Lib.decDigits xn).toArray⟩ rfl (by unfold maxLen; have := HSV.out.2; omega) (by have := HSV.out.2; omega) HBX.out.size ?_; intro v4 W4 ho4 hg4 _; obtain ⟨A4, cap4, rfl, _⟩ := own_form ho4; have HO4 := zh ho4; have HG4 := zh hg4; clear ho4 hg4; obtain ⟨m4, hm4⟩ : ∃ z, z = m2 + (⟨(Lib.decDigits xn).toArray⟩ : ByteArray).size := ⟨_, rfl⟩; have HM44 := zh hm4; rw [<- hm4]; clear hm4)
           have HB4 : Hid (Below w.heap.size w W4) := zh (HBX.out.grown HG4.out HBX.out.size (fun g hg => (World.ownsRow.lt HO2.out g hg).1))
           have HBC : Hid (spF false (l.take (k + 1)) = b2 ++ (⟨(Lib.decDigits xn).toArray⟩ : ByteArray).data.toList) := zh (by rw [HTK.out, spF_append, HBD.out, <- List.append_assoc, <- HB2D.out, HSV.out.1])
           have HM4 : Hid (m4 = (b2 ++ (⟨(Lib.decDigits xn).toArray⟩ : ByteArray).data.toList).length) := zh (by rw [HM44.out, lna, HM2.out, Array.length_toList]; rfl)
           have hm45 : m4 <= 40000 := by have := HSV.out.2; have := HM44.out; omega
           have HO5 : Hid (W4.ownsRow w.heap.size 5 1 (.slice A4 m4 cap4) m4 (bcells (b2 ++ (⟨(Lib.decDigits xn).toArray⟩ : ByteArray).data.toList))) := zh (by rw [HM44.out, bcells_append]; exact HO4.out)
           by_cases hbig : 16384 < m4
           . have db : decide ((m4 : Int) > 16384) = true := dqt (by omega)
             have db' : decide (16384 < m4) = true := dqt hbig
             have HF : Hid (spellL l = ([], 2)) := zh (by
              unfold spellL
              rw [HALR.out, if_pos rfl, if_pos]
              have h := spF_pre l (k + 1)
              rw [HBC.out, <- HM4.out] at h
              omega)
             go_wp2_with fail
             go_ret2
             exact ⟨by rw [HF.out]; rfl, HB4.out⟩
           . have db : decide ((m4 : Int) > 16384) = false := dqf (by omega)
             have db' : decide (16384 < m4) = false := dqf hbig
             go_wp2_with fail
             go_roundw
             case rel => exact ⟨k + 1, b2 ++ (⟨(Lib.decDigits xn).toArray⟩ : ByteArray).data.toList, A4, cap4, by go_num, by rw [<- HM4.out], by omega, HBC.out, by rw [<- HM4.out]; omega, by rw [<- HM4.out]; exact HO5.out, HB4.out⟩
             case measure => simp [intOf]; omega
         . have e2 : ((kd : Int) == 2) = false := by simp; omega
           by_cases hk3 : kd = 3
           . have e3 : ((kd : Int) == 3) = true := by simp [hk3]
             have HSP : Hid (spellT x0 = quoteL st.data.toList) := zh (by unfold spellT Tz.tx; rw [HX0.out]; dsimp only; rw [if_neg (by omega), if_pos hk3])
             have HTX : Hid (st.data.toList.length <= 4095) := zh (by
              have h := HRX.out
              unfold rightB Tz.tx at h
              rw [HX0.out] at h
              dsimp only at h
              rw [if_neg (by omega), if_neg (by omega), if_pos hk3, Bool.and_eq_true, decide_eq_true_eq] at h
              exact h.1)
             have HSV : Hid ((⟨(quoteL st.data.toList).toArray⟩ : ByteArray).data.toList = spellT x0 ∧ (⟨(quoteL st.data.toList).toArray⟩ : ByteArray).size <= 17000) := zh ⟨by rw [HSP.out], by have := quote_len st.data.toList; have := HTX.out; show (quoteL st.data.toList).length <= _; omega⟩
             have HCL : Hid (Calls prog 53 #[.string st] W fun e w' => e = .returned (.string ⟨(quoteL st.data.toList).toArray⟩) ∧ Below W.heap.size W w') := zh (by
              have := rquoted_any st.data.toList (by have := HTX.out; omega) W
              simpa using this)
             clear hk3
             go_wp2_with fail
             refine HCL.out.mono ?_
             rintro e W3 ⟨rfl, hw3⟩
             have HO23 : Hid (W3.ownsRow w.heap.size 5 1 (.slice A2 m2 cap2) m2 (bcells b2)) := zh (own_below HO2.out hw3)
             have HBX3 : Hid (Below w.heap.size w W3) := zh (HBX.out.trans (hw3.mono HBX.out.size))
             have HRG3 : Hid (W3.rangeAt bb (off + k * 4) [.int .u8 (kd : Nat), .string st, .int .i64 iv, .int .i64 pl]) := zh (fun jj u hu => (World.cell?_of_block (hw3.block _ (Nat.lt_of_lt_of_le HLTW.out HBX.out.size))).trans (HRG2.out jj u hu))
             have g0 : W3.cell? ⟨bb, off + k * 4, none⟩ = some (.int .u8 (kd : Nat)) := HRG3.out 0 _ rfl
             clear hw3 HO2 HBX HRG2 HCL
             have HO2 := HO23
             have HBX := HBX3
             generalize W3 = W at *
             obtain ⟨hi0, hz0, hz1, hz2⟩ := HI.out
             go_upto_region 18 with (at_builtin; refine Lib.wpList_append_own_string _ rfl _ _ 73 9 rfl w.heap.size 5 i0 underlying73 underlying9 hi0 hz0 hz1 hz2 _ _ _ rfl HO2.out ⟨(quoteL st.data.toList).toArray⟩ rfl (by unfold maxLen; have := HSV.out.2; omega) (by have := HSV.out.2; omega) HBX.out.size ?_; intro v4 W4 ho4 hg4 _; obtain ⟨A4, cap4, rfl, _⟩ := own_form ho4; have HO4 := zh ho4; have HG4 := zh hg4; clear ho4 hg4; obtain ⟨m4, hm4⟩ : ∃ z, z = m2 + (⟨(quoteL st.data.toList).toArray⟩ : ByteArray).size := ⟨_, rfl⟩; have HM44 := zh hm4; rw [<- hm4]; clear hm4)
             have HB4 : Hid (Below w.heap.size w W4) := zh (HBX.out.grown HG4.out HBX.out.size (fun g hg => (World.ownsRow.lt HO2.out g hg).1))
             have HBC : Hid (spF false (l.take (k + 1)) = b2 ++ (⟨(quoteL st.data.toList).toArray⟩ : ByteArray).data.toList) := zh (by rw [HTK.out, spF_append, HBD.out, <- List.append_assoc, <- HB2D.out, HSV.out.1])
             have HM4 : Hid (m4 = (b2 ++ (⟨(quoteL st.data.toList).toArray⟩ : ByteArray).data.toList).length) := zh (by rw [HM44.out, lna, HM2.out, Array.length_toList]; rfl)
             have hm45 : m4 <= 40000 := by have := HSV.out.2; have := HM44.out; omega
             have HO5 : Hid (W4.ownsRow w.heap.size 5 1 (.slice A4 m4 cap4) m4 (bcells (b2 ++ (⟨(quoteL st.data.toList).toArray⟩ : ByteArray).data.toList))) := zh (by rw [HM44.out, bcells_append]; exact HO4.out)
             by_cases hbig : 16384 < m4
             . have db : decide ((m4 : Int) > 16384) = true := dqt (by omega)
               have db' : decide (16384 < m4) = true := dqt hbig
               have HF : Hid (spellL l = ([], 2)) := zh (by
                unfold spellL
                rw [HALR.out, if_pos rfl, if_pos]
                have h := spF_pre l (k + 1)
                rw [HBC.out, <- HM4.out] at h
                omega)
               go_wp2_with fail
               go_ret2
               exact ⟨by rw [HF.out]; rfl, HB4.out⟩
             . have db : decide ((m4 : Int) > 16384) = false := dqf (by omega)
               have db' : decide (16384 < m4) = false := dqf hbig
               go_wp2_with fail
               go_roundw
               case rel => exact ⟨k + 1, b2 ++ (⟨(quoteL st.data.toList).toArray⟩ : ByteArray).data.toList, A4, cap4, by go_num, by rw [<- HM4.out], by omega, HBC.out, by rw [<- HM4.out]; omega, by rw [<- HM4.out]; exact HO5.out, HB4.out⟩
               case measure => simp [intOf]; omega
           . have e3 : ((kd : Int) == 3) = false := by simp; omega
             have HSV : Hid (st.data.toList = spellT x0 ∧ st.size <= 17000) := zh (by
              have h1 : st.data.toList.length <= 24 := right_len HRX.out (by rw [HX0.out]; exact hk2) (by rw [HX0.out]; exact hk3) (by rw [HX0.out]; rfl)
              rw [Array.length_toList] at h1
              exact ⟨by unfold spellT Tz.tx; rw [HX0.out]; dsimp only; rw [if_neg hk2, if_neg hk3], by show st.data.size <= _; omega⟩)
             obtain ⟨hi0, hz0, hz1, hz2⟩ := HI.out
             go_upto_region 18 with (at_builtin; refine Lib.wpList_append_own_string _ rfl _ _ 73 9 rfl w.heap.size 5 i0 underlying73 underlying9 hi0 hz0 hz1 hz2 _ _ _ rfl HO2.out st rfl (by unfold maxLen; have := HSV.out.2; omega) (by have := HSV.out.2; omega) HBX.out.size ?_; intro v4 W4 ho4 hg4 _; obtain ⟨A4, cap4, rfl, _⟩ := own_form ho4; have HO4 := zh ho4; have HG4 := zh hg4; clear ho4 hg4; obtain ⟨m4, hm4⟩ : ∃ z, z = m2 + st.size := ⟨_, rfl⟩; have HM44 := zh hm4; rw [<- hm4]; clear hm4)
             have HB4 : Hid (Below w.heap.size w W4) := zh (HBX.out.grown HG4.out HBX.out.size (fun g hg => (World.ownsRow.lt HO2.out g hg).1))
             have HBC : Hid (spF false (l.take (k + 1)) = b2 ++ st.data.toList) := zh (by rw [HTK.out, spF_append, HBD.out, <- List.append_assoc, <- HB2D.out, HSV.out.1])
             have HM4 : Hid (m4 = (b2 ++ st.data.toList).length) := zh (by rw [HM44.out, lna, HM2.out, Array.length_toList]; rfl)
             have hm45 : m4 <= 40000 := by have := HSV.out.2; have := HM44.out; omega
             have HO5 : Hid (W4.ownsRow w.heap.size 5 1 (.slice A4 m4 cap4) m4 (bcells (b2 ++ st.data.toList))) := zh (by rw [HM44.out, bcells_append]; exact HO4.out)
             by_cases hbig : 16384 < m4
             . have db : decide ((m4 : Int) > 16384) = true := dqt (by omega)
               have db' : decide (16384 < m4) = true := dqt hbig
               have HF : Hid (spellL l = ([], 2)) := zh (by
                unfold spellL
                rw [HALR.out, if_pos rfl, if_pos]
                have h := spF_pre l (k + 1)
                rw [HBC.out, <- HM4.out] at h
                omega)
               go_wp2_with fail
               go_ret2
               exact ⟨by rw [HF.out]; rfl, HB4.out⟩
             . have db : decide ((m4 : Int) > 16384) = false := dqf (by omega)
               have db' : decide (16384 < m4) = false := dqf hbig
               go_wp2_with fail
               go_roundw
               case rel => exact ⟨k + 1, b2 ++ st.data.toList, A4, cap4, by go_num, by rw [<- HM4.out], by omega, HBC.out, by rw [<- HM4.out]; omega, by rw [<- HM4.out]; exact HO5.out, HB4.out⟩
               case measure => simp [intOf]; omega
     . have di : decide ((k : Int) < (n : Int)) = false := dqf (by omega)
       have HF : Hid (spellL l = (b, 0)) := zh (by
        have h := HBD.out
        rw [List.take_of_length_le (by rw [<- HH.out.2.1]; omega)] at h
        unfold spellL
        rw [HALR.out, if_pos rfl, h, if_neg (by rw [<- HM.out]; omega)])
       have hstr := run_str_own (P := prog) wr 73 9 5 w.heap.size (.slice A m cap) m b underlying73 underlying5 underlying9 HM.out.symm HO.out
       go_wp2_with fail
       go_ret2
       exact ⟨by rw [HF.out]; rfl, HB.out⟩
end Go.Proofs.YtbcadlocldplfaaDoor.T7
