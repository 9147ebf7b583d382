/- Contract of the law's bare: tokens without their places. -/
import Derived.Outline
import Derived.Deep.DeepCutAuto
import Derived.Deep.MidRow
import Derived.Test.YtlfkiaphmifelaaDoorTkz
import Derived.Test.YtlfkiaphmifelaaDoorAlp
namespace Go.Proofs.YtlfkiaphmifelaaDoor
open Go.RowKit

def z0 (x : Tz) : Tz := ⟨x.kind, x.text, x.int, 0⟩
/-- 'l = append(l, t)' for a token t of any kind that was laid in memory of its own. -/
theorem wpList_app_tz {ops : Array Oper} {rest : List Oper} {o : Oper} {a : Act} {W : World} {Q : Exit → Act → World → Prop} (hgd : o.guard = none) (sl x : Operand)
    (ho : o.op = .call { callee := .builtin .append, args := #[sl, x], argTypes := #[22, 22] }) (base g m : Nat) (A : Option Addr) (cap : Nat) (l : List Tz) (t : Tz)
    (hs : a.eval sl = .slice A m cap) (hown : W.ownsRow base 33 4 (.slice A m cap) m (rowOf zcell l)) (hx : a.eval x = .slice (some ⟨g, 0, none⟩) 1 1)
    (hg : W.heap[g]? = some (.cells (zcell t).toArray 33 (0, 0))) (hm : m ≤ 100000) (hb : base ≤ W.heap.size)
    (h : ∀ A' c' W', W'.ownsRow base 33 4 (.slice A' (m + 1) c') (m + 1) (rowOf zcell (l ++ [t])) → W.grownBy W' (Value.slice A m cap).ownBlock → wpList Tryd.prog ops Q rest (a.put o.dst (.slice A' (m + 1) c')) W') :
    wpList Tryd.prog ops Q (o :: rest) a W := by
  obtain ⟨i0, hi0, hz0, hz1, hz2⟩ := info_parts Tryd.info32
  refine wpList_append_own _ hgd sl x 22 ho base 33 i0 (.agg #[.int .u8 0, .string ⟨#[]⟩, .int .i64 0, .int .i64 0]) 4 40 Tryd.underlying22 hi0 hz0 hz1 hz2 rfl (by decide) (.slice A m cap) m (rowOf zcell l) hs hown ⟨g, 0, none⟩ 1 1 (zcell t) hx rfl (news_of_blk hg) (zcell_one t) (by unfold maxLen; omega) (by omega) hb ?_
  intro v3 w3 ho3 hg3 _
  obtain ⟨A3, c3, rfl, _⟩ := own_form ho3
  refine h A3 c3 w3 ?_ hg3
  have e : rowOf zcell (l ++ [t]) = rowOf zcell l ++ zcell t := by rw [rowOf_append]; simp [rowOf]
  rw [e]
  exact ho3
def BarePost (w : World) (l : List Tz) (e : Ending) (w' : World) : Prop :=
  ∃ A c, e = .returned (.slice A l.length c) ∧ RdZ w' A (l.map z0) ∧ Below w.heap.size w w'
set_option maxRecDepth 100000 in
set_option maxHeartbeats 8000000 in
theorem bare_any (A : Option Addr) (c : Nat) (l : List Tz) (w : World) (hrd : RdZ w A l) (hlen : l.length ≤ 50000) :
    Calls Tryd.prog 10 #[.slice A l.length c] w (BarePost w l) := by
  obtain ⟨n, hn⟩ : ∃ n, n = l.length := ⟨_, rfl⟩
  have HH := Lib.hid (And.intro hrd hn)
  rw [← hn] at hlen ⊢
  clear hrd hn
  go_enter Tryd.func10, Tryd.ntmps10
  go_wp2_with fail
  go_loopw [4, 3] (fun s4 s3 wr => ∃ (k : Nat) (B : Option Addr) (cp : Nat), s4 = .int .i64 (k : Nat) ∧ s3 = .slice B k cp ∧ k ≤ n ∧ wr.ownsRow w.heap.size 33 4 (.slice B k cp) k (rowOf zcell ((l.take k).map z0)) ∧ Below w.heap.size w wr) (fun s4 _ _ => n - (intOf s4).toNat)
  case atStart => exact ⟨0, none, 0, rfl, rfl, by omega, World.ownsRow_nil _ _ _ _, Below.refl _ _⟩
  case round =>
    obtain ⟨k, B, cp, rfl, rfl, hk, ho, hbw⟩ := hrel
    have HO := Lib.hid (And.intro ho hbw)
    clear ho hbw
    by_cases hlt : k < n
    · have di : decide ((k : Int) < (n : Int)) = true := decide_eq_true (by omega)
      obtain ⟨x0, hx⟩ : ∃ x, l[k]? = some x := ⟨_, List.getElem?_eq_getElem (by have := HH.out.2; omega)⟩
      obtain ⟨bb, off, hA, _, hcell⟩ := toks_at (HH.out.1.below HO.out.2) hx
      subst hA
      have HTK : Hid ((l.take (k + 1)).map z0 = (l.take k).map z0 ++ [z0 x0]) := Lib.hid (by rw [List.take_add_one, hx, List.map_append]; rfl)
      have HRG : Hid (wr.rangeAt bb (off + k * 4) (zcell x0)) := Lib.hid (fun jj u hu => hcell jj u hu)
      clear hx hcell
      obtain ⟨x, hxe⟩ : ∃ x, x = x0 := ⟨_, rfl⟩
      obtain ⟨kd, st, iv, pl⟩ := x
      have HX0 : Hid (x0 = ⟨kd, st, iv, pl⟩) := Lib.hid hxe.symm
      rw [← hxe] at HRG
      clear hxe
      dsimp only [zcell] at HRG
      have HB0 : Hid (Blk (wr.alloc (.cells #[.int .u8 0, .string ⟨#[]⟩, .int .i64 0, .int .i64 0] 33)) wr.heap.size 33 #[.int .u8 0, .string ⟨#[]⟩, .int .i64 0, .int .i64 0]) := Lib.hid (Blk.new wr _ _)
      have HL4 : Hid (wr.grownBy (wr.alloc (.cells #[.int .u8 (kd : Nat), .string st, .int .i64 iv, .int .i64 pl] 33)) none ∧ Blk (wr.alloc (.cells #[.int .u8 (kd : Nat), .string st, .int .i64 iv, .int .i64 pl] 33)) wr.heap.size 33 #[.int .u8 (kd : Nat), .string st, .int .i64 iv, .int .i64 pl]) := Lib.hid ⟨World.grownBy_alloc _ _ none, Blk.new _ _ _⟩
      have n0 : (0 : Int) ≤ (k : Int) := by omega
      have n1 : (k : Int) < (n : Int) := by omega
      go_upto_region 6 with (first | (refine wpList_load_mid rfl 33 (.tmp 14) rfl bb (off + k * 4) rfl [.int .u8 (kd : Nat), .string st, .int .i64 iv, .int .i64 pl] (.struct _) HRG.out Tryd.underlying33 rfl (by kernel_rfl) ?_) | (refine wpList_store_row rfl 33 (.tmp 5) (.tmp 15) rfl wr.heap.size #[.int .u8 (kd : Nat), .string st, .int .i64 iv, .int .i64 pl] rfl rfl 33 #[.int .u8 0, .string ⟨#[]⟩, .int .i64 0, .int .i64 0] HB0.out (by kernel_rfl) rfl (by kernel_rfl) ?_; rw [World.setRow_alloc_new]) | fail)
      obtain ⟨b7, hb7⟩ : ∃ b, b = wr.heap.size := ⟨_, rfl⟩
      have HB5 : Hid ((wr.alloc (.cells #[.int .u8 (kd : Nat), .string st, .int .i64 iv, .int .i64 pl] 33)).ownsRow w.heap.size 33 4 (.slice B k cp) k (rowOf zcell ((l.take k).map z0)) ∧ Below w.heap.size w (wr.alloc (.cells #[.int .u8 (kd : Nat), .string st, .int .i64 iv, .int .i64 pl] 33)) ∧ Blk (wr.alloc (.cells #[.int .u8 (kd : Nat), .string st, .int .i64 iv, .int .i64 pl] 33)) b7 33 #[.int .u8 (kd : Nat), .string st, .int .i64 iv, .int .i64 pl]) := Lib.hid ⟨HO.out.1.alloc _, HO.out.2.alloc HO.out.2.size _, by rw [hb7]; exact HL4.out.2⟩
      have HN : Hid (w.heap.size ≤ b7 ∧ ∀ g, (Value.slice B k cp).ownBlock = some g → g ≠ b7) := Lib.hid ⟨by rw [hb7]; exact HO.out.2.size, fun g hg => by have := (World.ownsRow.lt HO.out.1 g hg).2; omega⟩
      rw [← hb7]
      clear HB0 HL4 HRG HO hb7
      generalize wr.alloc (.cells #[.int .u8 (kd : Nat), .string st, .int .i64 iv, .int .i64 pl] 33) = w5 at *
      have f3 : w5.frozen? ⟨b7, 3, none⟩ = false := HB5.out.2.2.frozen 3
      have c3 : w5.cell? ⟨b7, 3, none⟩ = some (.int .i64 pl) := HB5.out.2.2.cell 3
      have HB6 : Hid ((w5.setCell ⟨b7, 3, none⟩ (.int .i64 0)).ownsRow w.heap.size 33 4 (.slice B k cp) k (rowOf zcell ((l.take k).map z0)) ∧ Below w.heap.size w (w5.setCell ⟨b7, 3, none⟩ (.int .i64 0)) ∧ Blk (w5.setCell ⟨b7, 3, none⟩ (.int .i64 0)) b7 33 #[.int .u8 (kd : Nat), .string st, .int .i64 iv, .int .i64 0]) := Lib.hid ⟨own_chg HB5.out.1 (Chg.setCell (T := fun b => b = b7) (Chg.refl _ _) (p := ⟨b7, 3, none⟩) rfl _) (fun g hg => HN.out.2 g hg), HB5.out.2.1.setCell (p := ⟨b7, 3, none⟩) HN.out.1 _, by
        have h1 := HB5.out.2.2.set_ 3 (.int .i64 0)
        simpa using h1⟩
      go_upto_region 7 with fail
      generalize w5.setCell ⟨b7, 3, none⟩ (.int .i64 0) = w6 at *
      clear f3 c3 HB5
      have HNW : Hid (w6.grownBy (w6.alloc (.cells #[.int .u8 (kd : Nat), .string st, .int .i64 iv, .int .i64 0] 33)) none ∧ (w6.alloc (.cells #[.int .u8 (kd : Nat), .string st, .int .i64 iv, .int .i64 0] 33)).heap[w6.heap.size]? = some (.cells (zcell (z0 x0)).toArray 33 (0, 0))) := Lib.hid ⟨World.grownBy_alloc _ _ none, by rw [HX0.out]; exact heap_alloc_new w6 _⟩
      go_wp2_with (first | (refine wpList_load_row rfl 33 (.tmp 5) rfl b7 rfl 33 #[.int .u8 (kd : Nat), .string st, .int .i64 iv, .int .i64 0] (0, 0) _ HB6.out.2.2 Tryd.underlying33 rfl (by kernel_rfl) ?_) | (at_builtin; refine wpList_app_tz rfl (.tmp 17) (.tmp 19) rfl w.heap.size w6.heap.size k B cp ((l.take k).map z0) (z0 x0) rfl (HB6.out.1.alloc _) rfl HNW.out.2 (by omega) (by have := HB6.out.2.1.size; simp; omega) ?_; intro A3 c3 w3 ho3 hg3; have HO3 := Lib.hid ho3; have HG3 := Lib.hid hg3; clear ho3 hg3) | fail)
      go_roundw
      case rel => exact ⟨k + 1, A3, c3, by go_num, rfl, by omega, by rw [HTK.out]; exact HO3.out, (HB6.out.2.1.alloc HB6.out.2.1.size _).grown HG3.out (by have := HB6.out.2.1.size; simp; omega) (fun g hg => (World.ownsRow.lt HB6.out.1 g hg).1)⟩
      case measure => simp [intOf]; omega
    · have di : decide ((k : Int) < (n : Int)) = false := decide_eq_false (by omega)
      obtain rfl : k = n := by omega
      have HE : Hid (RdZ wr B (l.map z0)) := Lib.hid (by
        have h := HO.out.1
        rw [List.take_of_length_le (by have := HH.out.2; omega)] at h
        exact RdL.of_own zcell_len h (by rw [List.length_map]; exact HH.out.2))
      go_wp2_with fail
      go_ret
      exact ⟨B, cp, congrArg (fun m => Ending.returned (.slice B m cp)) HH.out.2, HE.out, HO.out.2⟩
end Go.Proofs.YtlfkiaphmifelaaDoor
