/- Contract of prompterref06.Split. -/
import Derived.Test.YtmoplkmfpobhaaaSpl
namespace Go.Proofs.Ytmoplkmfpobhaaa
open Go.RowKit

theorem Try.info22 : (Try.prog.info? 22).map (fun i => (i.zero, i.size, i.bytes)) = some (some (.slice none 0 0), 1, 24) := by kernel_rfl

def NewLL (w : World) (l : List UInt8) (e : Ending) (w' : World) : Prop :=
  ∃ v, e = .returned (.tuple #[v, .int .i64 (spl l).2.1, .int .i64 (spl l).2.2]) ∧ LL w' w.heap.size v (spl l).1 ∧ Below w.heap.size w w'

theorem lookL_small {l : List UInt8} (h : (lookL l).2.2 = 0) : 12 ≤ usedL l ∧ usedL l ≤ l.length := used_pos h

set_option maxHeartbeats 2000000 in
theorem refSplit_any (refRead_any : ∀ (A : Option Addr) (n cap : Nat) (l : List UInt8) (w : World), l.length = n → n ≤ 70000 → n ≤ cap → Reads w w.heap.size 1 A n (bcells l) →
      Calls Try.prog 16 #[.slice A n cap] w fun e w' => ∃ v, e = .returned (.tuple #[v, .int .i64 (usedL l), .int .i64 (lookL l).2.2]) ∧ NewRow w v (bodyL l) w')
    (A : Option Addr) (n cap : Nat) (l : List UInt8) (w : World) (hl : l.length = n) (hn : n ≤ 70000) (hc : n ≤ cap) (hr : Reads w w.heap.size 1 A n (bcells l)) :
    Calls Try.prog 18 #[.slice A n cap] w (NewLL w l) := by
  have HRR := Lib.hid refRead_any
  have HL := Lib.hid hl
  have HR := Lib.hid hr
  clear hr hl refRead_any
  obtain ⟨i0, hi, hz0, hz1, hz2⟩ := info_parts Try.info22
  have HI := Lib.hid (And.intro hi (And.intro hz0 (And.intro hz1 hz2)))
  clear hi hz0 hz1 hz2
  go_enter Try.func18, Try.ntmps18
  go_wp2_with fail
  go_loopw [5, 6] (fun v i wr => ∃ (p : Nat) (bs : List (List UInt8)) (A : Option Addr) (c : Nat), i = .int .i64 p ∧ v = .slice A bs.length c ∧ p ≤ n ∧ 12 * bs.length ≤ p ∧ SplAt l p bs ∧ LL wr w.heap.size v bs ∧ Below w.heap.size w wr) (fun _ i _ => n - (intOf i).toNat)
  case atStart => exact ⟨0, [], none, 0, rfl, rfl, Nat.zero_le _, by simp, splAt_zero l, LL.nil_ _ _, Below.refl _ _⟩
  case round =>
    obtain ⟨p, bs, Av, cv, rfl, rfl, hp, hb12, hs, hll, hb⟩ := hrel
    have HS := Lib.hid hs
    have HLL := Lib.hid hll
    have HB := Lib.hid hb
    clear hs hll hb
    by_cases hlt : p < n
    · obtain ⟨b, off, rfl, -, -⟩ := HR.out.bytes (by omega)
      have HRp : Hid (Reads wr wr.heap.size 1 (some ⟨b, off + p, none⟩) (n - p) (bcells (l.drop p))) := by
        have h := ((HR.out.sub p n (by omega) (Nat.le_refl _)).below HB.out).more HB.out.size
        rwa [List.take_of_length_le (by rw [HL.out]; exact Nat.le_refl _)] at h
      have hcp : ¬ cap = p := by omega
      go_wp2_with fail
      refine (HRR.out _ (n - p) (cap - p) (l.drop p) wr (by rw [List.length_drop, HL.out]) (by omega) (by omega) HRp.out).mono ?_
      rintro e w2 ⟨v2, rfl, A2, c2, rfl, ho2, hb2⟩
      have HO2 := Lib.hid (own_mono ho2 HB.out.size)
      have HB2 := Lib.hid (HB.out.trans (hb2.mono HB.out.size))
      have HLL2 := Lib.hid (HLL.out.below hb2)
      have HLK := Lib.hid (lookL_small (l := l.drop p))
      have HNX := Lib.hid (HS.out.next (by rw [HL.out]; exact hlt))
      have HER := Lib.hid (HS.out.err (by rw [HL.out]; exact hlt))
      have HDL := Lib.hid (show (l.drop p).length = n - p by rw [List.length_drop, HL.out])
      have hle := (lookL_le (l.drop p) (by rw [HDL.out]; omega)).2.2
      have hbd : Hid (w2.ownsRow w.heap.size 5 1 (.slice A2 (bodyL (l.drop p)).length c2) (bodyL (l.drop p)).length (bcells (bodyL (l.drop p)))) := HO2
      clear ho2 hb2 HO2
      generalize (lookL (l.drop p)).2.2 = er at *
      generalize bodyL (l.drop p) = bd at *
      generalize usedL (l.drop p) = us at *
      by_cases he : er = 0
      · subst he
        obtain ⟨hul0, hul⟩ := HLK.out rfl
        rw [HDL.out] at hul
        have HNX2 := Lib.hid (HNX.out rfl)
        obtain ⟨us2, hv1, hv2, hv3⟩ := HLL2.out
        have HV1 := Lib.hid (hv1.alloc (.cells #[.slice A2 bd.length c2] 22))
        have HV23 := Lib.hid (And.intro hv2 (fun (i : Nat) (u : Value) (l : List UInt8) (h1 : us2[i]? = some u) (h2 : bs[i]? = some l) => (hv3 i u l h1 h2).below ((Below.refl _ w2).alloc (Nat.le_refl _) (.cells #[.slice A2 bd.length c2] 22))))
        have HBD := Lib.hid (show Bod (w2.alloc (.cells #[.slice A2 bd.length c2] 22)) w.heap.size (.slice A2 bd.length c2) bd from ⟨A2, c2, rfl, hbd.out.alloc _⟩)
        have HRN : Hid (Reads (w2.alloc (.cells #[.slice A2 bd.length c2] 22)) (w2.heap.size + 1) 1 (some ⟨w2.heap.size, 0, none⟩) 1 [.slice A2 bd.length c2]) :=
          ⟨rfl, fun _ => ⟨_, rfl, Nat.lt_succ_self _, fun j u hu => by
            rcases j with _ | j
            · have : (Value.slice A2 bd.length c2) = u := by simpa using hu
              rw [← this]
              exact World.cell?_alloc_new w2 _ _ _
            · simp at hu⟩⟩
        clear hv1 hv2 hv3 HNX HER HLK HLL2 hbd
        obtain ⟨hi, hz0, hz1, hz2⟩ := HI.out
        go_wp2_with (at_builtin; refine wpList_append_any _ rfl (.tmp 27) (.tmp 29) 35 rfl w.heap.size 22 i0 (.slice none 0 0) 1 24 Try.underlying35 hi hz0 hz1 hz2 rfl (by decide) (.slice Av bs.length cv) bs.length us2 rfl HV1.out (w2.heap.size + 1) _ 1 1 [.slice A2 bd.length c2] rfl HRN.out (by intro u hu; rw [List.mem_singleton] at hu; subst hu; rfl) (by unfold maxLen; omega) (by omega) (by have := HB2.out.size; simp; omega) ?_; intro v3 w3 ho3 hg3 hat3)
        have HB3 := Lib.hid ((HB2.out.alloc HB2.out.size (.cells #[.slice A2 bd.length c2] 22)).grown hg3 (by have := HB2.out.size; simp; omega) (fun g hg => (World.ownsRow.lt HV1.out g hg).1))
        have HL3 := Lib.hid (LL.snoc HV1.out HV23.out.1 HV23.out.2 HBD.out ho3 hg3)
        obtain ⟨A3, c3, rfl, _⟩ := own_form ho3
        clear ho3 hg3 hat3 hi hz0 hz1 hz2
        go_wp2_with fail
        go_roundw
        case rel => exact ⟨p + us, bs ++ [bd], A3, c3, by go_num, by rw [List.length_append, List.length_singleton], by omega, HNX2.out.2.2, HNX2.out, HL3.out, HB3.out⟩
        case measure => simp [intOf]; omega
      · have hne : ((er : Int) != 0) = true := by rw [bne_iff_ne]; omega
        have HV := Lib.hid (HER.out he)
        clear he
        go_wp2_with fail
        go_ret3
        exact ⟨_, by rw [HV.out]; rfl, by rw [HV.out]; exact HLL2.out, HB2.out⟩
    · have hpn : p = l.length := by rw [HL.out]; omega
      have HV := Lib.hid (show spl l = (bs, l.length, 0) by have h := HS.out; rw [hpn] at h; exact h.done)
      have HPN := Lib.hid hpn
      clear hpn
      go_wp2_with fail
      go_ret3
      exact ⟨_, by rw [HV.out, ← HPN.out]; rfl, by rw [HV.out]; exact HLL.out, HB.out⟩
end Go.Proofs.Ytmoplkmfpobhaaa
