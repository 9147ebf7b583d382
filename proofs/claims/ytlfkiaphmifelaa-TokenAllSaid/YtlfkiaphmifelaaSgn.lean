/- Contracts of the document's Signs, sign. -/
import Derived.Laws.CopyOwn
import Derived.Deep.QuietTactic
import Derived.BigQuiet
import Derived.Test.YtlfkiaphmifelaaSgp
import Derived.Test.YtlfkiaphmifelaaWrg
import Derived.Test.YtlfkiaphmifelaaAlp
namespace Go.Proofs.Ytlfkiaphmifelaa
open Go.RowKit

def signCells : Array Value := (signsL.map fun l => Value.string ⟨l.toArray⟩).toArray
theorem signs_call (w : World) :
    Calls Try.prog 32 #[] w fun e w' => e = .returned (.slice (some ⟨w.heap.size, 0, none⟩) 17 17) ∧ w.alloc (.cells signCells 9) = w' := by
  go_enter Try.func32, Try.ntmps32
  go_wp2
  go_ret
  exact ⟨rfl, rfl⟩
theorem signCells_get (k : Nat) (t : List UInt8) (h : signsL[k]? = some t) : signCells[k]? = some (.string ⟨t.toArray⟩) := by
  unfold signCells
  rw [List.getElem?_toArray, List.getElem?_map, h]; rfl

set_option maxRecDepth 100000 in
set_option maxHeartbeats 8000000 in
theorem refSign_any (s : List UInt8) (i : Nat) (c0 : UInt8) (hs : s.length ≤ 100000) (hc0 : s[i]? = some c0) (w : World) :
    Calls Try.prog 28 #[.string ⟨s.toArray⟩, .int .i64 (i : Nat)] w (ToldPost w (signL s i c0)) := by
  obtain ⟨st, hst⟩ : ∃ st : ByteArray, st = ⟨s.toArray⟩ := ⟨_, rfl⟩
  have hsz : st.size = s.length := by rw [hst]; rfl
  obtain ⟨n, hn⟩ : ∃ n, n = s.length := ⟨_, rfl⟩
  have hil : i < s.length := (List.getElem?_eq_some_iff.1 hc0).1
  have hsi : s[i] = c0 := by have h := hc0; rw [List.getElem?_eq_getElem hil] at h; injection h
  have hist0 : i < st.size := by omega
  obtain ⟨v0, hv0⟩ : ∃ v, v = c0.toNat := ⟨_, rfl⟩
  have hg0 : st[i].toNat = v0 := by rw [hv0, ← hsi, st_get hst hist0 hil]
  have hv0l : v0 < 256 := by rw [hv0]; exact UInt8.toNat_lt _
  have HC33 : Hid (c0 = 33 ↔ v0 = 33) := by rw [hv0]; exact ⟨fun h => by rw [h]; rfl, fun h => UInt8.toNat_inj.1 h⟩
  have HSG := Lib.hid (refSign_eq hc0)
  rw [← hst]
  rw [← hn] at hsz hs hil
  have HST := Lib.hid hst
  have HN := Lib.hid hn
  clear hst hn hsi hc0 hv0
  go_enter Try.func28, Try.ntmps28
  go_wp2_with fail
  refine (signs_call _).mono ?_
  rintro e w2 ⟨rfl, hw2⟩
  rw [← hw2]
  clear hw2 w2
  go_wp2_with fail
  go_loopw [6, 7] (fun s6 s7 wr => ∃ k : Nat, s6 = .int .i64 k ∧ k ≤ 17 ∧ refSign s i c0 k = signL s i c0 ∧ Blk wr w.heap.size 43 #[.int .u8 0, .string ⟨#[]⟩, .int .i64 0, .int .i64 0, .int .i64 0, .int .i64 0, .int .i64 0] ∧ Blk wr (w.heap.size + 1) 9 signCells ∧ Below w.heap.size w wr) (fun s6 _ _ => 17 - (intOf s6).toNat)
  case atStart => exact ⟨0, rfl, by omega, HSG.out, (Blk.new w 43 _).alloc _, new2 w _ _, ((Below.refl _ _).alloc (Nat.le_refl _) _).alloc (by simp) _⟩
  case round =>
    obtain ⟨k, rfl, hk17, hsg, hy, hy2, hb⟩ := hrel
    have HBW := Lib.hid hb
    have HY := Lib.hid hy
    have HY2 := Lib.hid hy2
    have HK := Lib.hid hsg
    have hszr : w.heap.size < wr.heap.size := hy.lt
    clear hsg hy hy2 hb
    by_cases hlt : k < 17
    · have hkl : k < signsL.length := hlt
      obtain ⟨t, ht⟩ : ∃ t, signsL[k]? = some t := ⟨_, List.getElem?_eq_getElem hkl⟩
      have htl : 1 ≤ t.length ∧ t.length ≤ 2 := by
        have h : t ∈ signsL := List.mem_of_getElem? ht
        have h : ∀ t ∈ signsL, 1 ≤ t.length ∧ t.length ≤ 2 := by decide
        exact h t (List.mem_of_getElem? ht)
      obtain ⟨htl1, htl2⟩ := htl
      obtain ⟨tb, htb⟩ : ∃ tb : ByteArray, tb = ⟨t.toArray⟩ := ⟨_, rfl⟩
      obtain ⟨L, hL⟩ : ∃ L, L = t.length := ⟨_, rfl⟩
      have hts : tb.size = L := by rw [htb, hL]; rfl
      have hcell : wr.cell? ⟨w.heap.size + 1, k, none⟩ = some (.string tb) := by rw [HY2.out.cell k, signCells_get k t ht, htb]
      rw [← hL] at htl1 htl2
      have HT := Lib.hid ht
      have HTB := Lib.hid htb
      have HL := Lib.hid hL
      have HMT : Hid (mtB s i t = (decide (i + L ≤ n) && (cutL s i (i + L) == t))) := by unfold mtB; rw [← HL.out, ← HN.out]; exact rfl
      clear ht htb hL hkl
      by_cases hfit : i + L ≤ n
      · have hsl := fun W => run_slice_string (P := Try.prog) (w := W) 9 st .i64 .i64 (i : Nat) ((i + L : Nat) : Int) Try.underlying9 (by omega) (by omega) (by omega)
        simp only [Int.toNat_natCast] at hsl
        obtain ⟨sub, hsub⟩ : ∃ sub, sub = st.extract i (i + L) := ⟨_, rfl⟩
        have HSUB : Hid ((sub.toList == tb.toList) = (cutL s i (i + L) == t)) := by rw [hsub, HST.out, extract_cut, HTB.out]; simp [Lib.toList_data]; exact trivial
        rw [← hsub] at hsl
        have hci : ((i + L : Nat) : Int) = (i : Int) + (L : Int) := by omega
        rw [hci] at hsl
        clear hsub hci
        have hd1 : decide ((i : Int) + (L : Int) ≤ (n : Int)) = true := decide_eq_true (by omega)
        have HFT : Hid (decide (i + L ≤ n) = true) := decide_eq_true hfit
        cases hq : (sub.toList == tb.toList)
        · have hmt : mtB s i t = false := by rw [HMT.out, HFT.out, ← HSUB.out, hq]; rfl
          have HR2 : Hid (refSign s i c0 (k + 1) = signL s i c0) := by rw [← HK.out]; exact (refSign_no HT.out hmt).symm
          clear hmt
          go_wp2_with fail
          go_quiet (fail)
          replace hcell : (wr.drewN nq).cell? ⟨w.heap.size + 1, k, none⟩ = some (.string tb) := hcell
          replace HY : Hid (Blk (wr.drewN nq) w.heap.size 43 #[.int .u8 0, .string ⟨#[]⟩, .int .i64 0, .int .i64 0, .int .i64 0, .int .i64 0, .int .i64 0]) := HY
          replace HY2 : Hid (Blk (wr.drewN nq) (w.heap.size + 1) 9 signCells) := HY2
          replace HBW : Hid (Below w.heap.size w (wr.drewN nq)) := below_drewN HBW.out nq
          replace hszr : w.heap.size < (wr.drewN nq).heap.size := hszr
          generalize wr.drewN nq = wq at *
          go_wp2_with fail
          go_roundw
          case rel => exact ⟨k + 1, by go_num, by omega, HR2.out, HY.out, HY2.out, HBW.out⟩
          case measure => simp [intOf]; omega
        · have HR : Hid (signL s i c0 = .inr (⟨4, t, 0, i⟩, i + L)) := by rw [← HK.out, refSign_yes HT.out (by rw [HMT.out, HFT.out, ← HSUB.out, hq]; rfl), ← HL.out]; exact rfl
          go_wp2_with fail
          go_quiet (fail)
          replace hcell : (wr.drewN nq).cell? ⟨w.heap.size + 1, k, none⟩ = some (.string tb) := hcell
          replace HY : Hid (Blk (wr.drewN nq) w.heap.size 43 #[.int .u8 0, .string ⟨#[]⟩, .int .i64 0, .int .i64 0, .int .i64 0, .int .i64 0, .int .i64 0]) := HY
          replace HY2 : Hid (Blk (wr.drewN nq) (w.heap.size + 1) 9 signCells) := HY2
          replace HBW : Hid (Below w.heap.size w (wr.drewN nq)) := below_drewN HBW.out nq
          replace hszr : w.heap.size < (wr.drewN nq).heap.size := hszr
          generalize wr.drewN nq = wq at *
          go_wp2_with (refine wpList_store_row rfl 43 _ _ rfl w.heap.size #[.int .u8 4, .string tb, .int .i64 0, .int .i64 (i : Nat), .int .i64 ((i : Int) + (L : Int)), .int .i64 0, .int .i64 0] rfl rfl 43 _ HY.out (by kernel_rfl) (by kernel_rfl) (by kernel_rfl) ?_)
          refine bodyPost_ret (results_cell_row rfl _ _ w.heap.size 43 #[.int .u8 4, .string tb, .int .i64 0, .int .i64 (i : Nat), .int .i64 ((i : Int) + (L : Int)), .int .i64 0, .int .i64 0] (0, 0) _ rfl (setRow_heap _ w.heap.size _ _ 43 _ HY.out) Try.underlying43 rfl (by kernel_rfl)) rfl ⟨by rw [HR.out, HTB.out]; rfl, below_setRow HBW.out (Nat.le_refl _) _⟩
      · have hmt : mtB s i t = false := by rw [HMT.out, decide_eq_false hfit]; rfl
        have HR2 : Hid (refSign s i c0 (k + 1) = signL s i c0) := by rw [← HK.out]; exact (refSign_no HT.out hmt).symm
        clear hmt
        have hd1 : decide ((i : Int) + (L : Int) ≤ (n : Int)) = false := decide_eq_false (by omega)
        clear hfit
        go_wp2_with fail
        go_quiet (fail)
        replace hcell : (wr.drewN nq).cell? ⟨w.heap.size + 1, k, none⟩ = some (.string tb) := hcell
        replace HY : Hid (Blk (wr.drewN nq) w.heap.size 43 #[.int .u8 0, .string ⟨#[]⟩, .int .i64 0, .int .i64 0, .int .i64 0, .int .i64 0, .int .i64 0]) := HY
        replace HY2 : Hid (Blk (wr.drewN nq) (w.heap.size + 1) 9 signCells) := HY2
        replace HBW : Hid (Below w.heap.size w (wr.drewN nq)) := below_drewN HBW.out nq
        replace hszr : w.heap.size < (wr.drewN nq).heap.size := hszr
        generalize wr.drewN nq = wq at *
        go_wp2_with fail
        go_roundw
        case rel => exact ⟨k + 1, by go_num, by omega, HR2.out, HY.out, HY2.out, HBW.out⟩
        case measure => simp [intOf]; omega
    · obtain rfl : k = 17 := by omega
      have HNS : Hid (signL s i c0 = if c0 ≠ 33 then .inl (i, 9) else if s.length = i + 1 then .inl (i + 1, 4) else .inl (i + 1, 9)) := HK.out.symm
      by_cases h33 : v0 = 33
      · have hb33 : ((v0 : Int) != 33) = false := by rw [h33]; rfl
        have HN2 : Hid (signL s i c0 = if s.length = i + 1 then .inl (i + 1, 4) else .inl (i + 1, 9)) := by rw [HNS.out, if_neg (fun h => h (HC33.out.2 h33))]; exact rfl
        clear h33 HNS
        by_cases hend : n = i + 1
        · have HR : Hid (signL s i c0 = .inl (i + 1, 4)) := by rw [HN2.out, if_pos (by rw [← HN.out]; exact hend)]; exact rfl
          have hb1 : ((i : Int) + 1 == (n : Int)) = true := by rw [beq_iff_eq]; omega
          clear hend
          go_wp2_with fail
          refine (wrong_any (i + 1) 4 wr).mono ?_
          rintro e w2 ⟨rfl, hb2⟩
          unfold told toldV
          have HB2 := Lib.hid (HBW.out.trans (hb2.mono HBW.out.size))
          have HY3 : Hid (Blk w2 w.heap.size 43 #[.int .u8 0, .string ⟨#[]⟩, .int .i64 0, .int .i64 0, .int .i64 0, .int .i64 0, .int .i64 0]) := (hb2.block _ hszr).trans HY.out
          clear hb2
          go_wp2_with (refine wpList_store_row rfl 43 _ _ rfl w.heap.size #[.int .u8 0, .string ⟨#[]⟩, .int .i64 0, .int .i64 0, .int .i64 0, .int .i64 (i + 1 : Nat), .int .i64 4] rfl rfl 43 _ HY3.out (by kernel_rfl) (by kernel_rfl) (by kernel_rfl) ?_)
          refine bodyPost_ret (results_cell_row rfl _ _ w.heap.size 43 #[.int .u8 0, .string ⟨#[]⟩, .int .i64 0, .int .i64 0, .int .i64 0, .int .i64 (i + 1 : Nat), .int .i64 4] (0, 0) _ rfl (setRow_heap _ w.heap.size _ _ 43 _ HY3.out) Try.underlying43 rfl (by kernel_rfl)) rfl ⟨by rw [HR.out]; rfl, below_setRow HB2.out (Nat.le_refl _) _⟩
        · have HR : Hid (signL s i c0 = .inl (i + 1, 9)) := by rw [HN2.out, if_neg (by rw [← HN.out]; exact hend)]; exact rfl
          have hb1 : ((i : Int) + 1 == (n : Int)) = false := by rw [beq_eq_false_iff_ne]; omega
          clear hend
          go_wp2_with fail
          refine (wrong_any (i + 1) 9 wr).mono ?_
          rintro e w2 ⟨rfl, hb2⟩
          unfold told toldV
          have HB2 := Lib.hid (HBW.out.trans (hb2.mono HBW.out.size))
          have HY3 : Hid (Blk w2 w.heap.size 43 #[.int .u8 0, .string ⟨#[]⟩, .int .i64 0, .int .i64 0, .int .i64 0, .int .i64 0, .int .i64 0]) := (hb2.block _ hszr).trans HY.out
          clear hb2
          go_wp2_with (refine wpList_store_row rfl 43 _ _ rfl w.heap.size #[.int .u8 0, .string ⟨#[]⟩, .int .i64 0, .int .i64 0, .int .i64 0, .int .i64 (i + 1 : Nat), .int .i64 9] rfl rfl 43 _ HY3.out (by kernel_rfl) (by kernel_rfl) (by kernel_rfl) ?_)
          refine bodyPost_ret (results_cell_row rfl _ _ w.heap.size 43 #[.int .u8 0, .string ⟨#[]⟩, .int .i64 0, .int .i64 0, .int .i64 0, .int .i64 (i + 1 : Nat), .int .i64 9] (0, 0) _ rfl (setRow_heap _ w.heap.size _ _ 43 _ HY3.out) Try.underlying43 rfl (by kernel_rfl)) rfl ⟨by rw [HR.out]; rfl, below_setRow HB2.out (Nat.le_refl _) _⟩
      · have hb33 : ((v0 : Int) != 33) = true := by rw [bne_iff_ne]; omega
        have HR : Hid (signL s i c0 = .inl (i, 9)) := by rw [HNS.out, if_pos (fun h => h33 (HC33.out.1 h))]; exact rfl
        clear h33
        go_wp2_with fail
        refine (wrong_any (i) 9 wr).mono ?_
        rintro e w2 ⟨rfl, hb2⟩
        unfold told toldV
        have HB2 := Lib.hid (HBW.out.trans (hb2.mono HBW.out.size))
        have HY3 : Hid (Blk w2 w.heap.size 43 #[.int .u8 0, .string ⟨#[]⟩, .int .i64 0, .int .i64 0, .int .i64 0, .int .i64 0, .int .i64 0]) := (hb2.block _ hszr).trans HY.out
        clear hb2
        go_wp2_with (refine wpList_store_row rfl 43 _ _ rfl w.heap.size #[.int .u8 0, .string ⟨#[]⟩, .int .i64 0, .int .i64 0, .int .i64 0, .int .i64 (i : Nat), .int .i64 9] rfl rfl 43 _ HY3.out (by kernel_rfl) (by kernel_rfl) (by kernel_rfl) ?_)
        refine bodyPost_ret (results_cell_row rfl _ _ w.heap.size 43 #[.int .u8 0, .string ⟨#[]⟩, .int .i64 0, .int .i64 0, .int .i64 0, .int .i64 (i : Nat), .int .i64 9] (0, 0) _ rfl (setRow_heap _ w.heap.size _ _ 43 _ HY3.out) Try.underlying43 rfl (by kernel_rfl)) rfl ⟨by rw [HR.out]; rfl, below_setRow HB2.out (Nat.le_refl _) _⟩
end Go.Proofs.Ytlfkiaphmifelaa
