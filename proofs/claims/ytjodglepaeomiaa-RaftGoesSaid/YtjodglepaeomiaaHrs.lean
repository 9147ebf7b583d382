/- Contract of hears. -/
import Derived.Outline
import Derived.Test.YtjodglepaeomiaaMay
namespace Go.Proofs.Ytjodglepaeomiaa
open Go.RowKit

theorem plain_any (m : Mg) (E : Option Addr) (c : Nat) (w : World) (hk : m.kind < 256) (hn : m.ents.length ≤ 9223372036854775807) :
    Calls Try.prog 64 #[.agg (mcell E c m).toArray] w fun e w' => e = .returned (.bool m.plain) ∧ Below w.heap.size w w' :=
  plain_bits m.kind m.ents.length c m.frm m.to m.term m.index m.logTerm m.commit E m.ok _ _ _ _ w rfl rfl rfl rfl hk hn
/-- What a message's numbers are. -/
structure MgOk (m : Mg) : Prop where
  kind : m.kind < 256
  frm : -9223372036854775808 ≤ m.frm ∧ m.frm ≤ 9223372036854775807
  to : -9223372036854775808 ≤ m.to ∧ m.to ≤ 9223372036854775807
  term : -9223372036854775808 ≤ m.term ∧ m.term ≤ 9223372036854775807
  index : -9223372036854775808 ≤ m.index ∧ m.index ≤ 9223372036854775807
  logTerm : -9223372036854775808 ≤ m.logTerm ∧ m.logTerm ≤ 9223372036854775807
  commit : -9223372036854775808 ≤ m.commit ∧ m.commit ≤ 9223372036854775807
  len : m.ents.length ≤ 9223372036854775807
set_option maxRecDepth 100000 in
set_option maxHeartbeats 8000000 in
theorem hears_any (S : Sv) (m : Mg) (g : Nat) (A E : Option Addr) (cs c : Nat) (w : World) (hS : SvR w g S A cs) (hrd : RdE w E m.ents) (hm : MgOk m) :
    Calls Try.prog 42 #[.pointer (some ⟨g, 0, none⟩), .agg (mcell E c m).toArray] w fun e w' => e = .returned (.bool (S.hears m)) ∧ Below w.heap.size w w' := by
  have HPL := Lib.hid (fun W => plain_any m E c W hm.kind hm.len)
  have HRI := Lib.hid (fun W (hb : Below w.heap.size w W) => rises_any E c m.ents (max 1 m.logTerm) m.term W (hrd.below hb) hm.len)
  have HC0 : Hid (∀ W, Below w.heap.size w W → W.cell? ⟨g, 0, none⟩ = some (.int .i64 (S.id : Nat)) ∧ W.cell? ⟨g, 1, none⟩ = some (.int .i64 (S.n : Nat))) := fun W hW => ⟨(hS.below hW).c0, (hS.below hW).c1⟩
  have HOK := Lib.hid hm
  obtain ⟨R, hR⟩ : ∃ b, b = S.hears m := ⟨_, rfl⟩
  rw [← hR]
  unfold Sv.hears at hR
  have hn1 : S.n ≤ 7 := hS.ok.n
  have hn0 : S.id < S.n := hS.ok.id
  obtain ⟨id, hid_⟩ : ∃ z, z = S.id := ⟨_, rfl⟩
  obtain ⟨nn, hnn⟩ : ∃ z, z = S.n := ⟨_, rfl⟩
  rw [← hid_, ← hnn] at hR HC0
  rw [← hnn] at hn1
  rw [← hid_, ← hnn] at hn0
  clear hid_ hnn hS hrd hm
  obtain ⟨pb, hpb⟩ : ∃ b, b = m.plain := ⟨_, rfl⟩
  rw [← hpb] at HPL hR
  clear hpb
  obtain ⟨kind, frm, to, term, index, logTerm, ents, commit, ok⟩ := m
  dsimp only [mcell] at HPL HRI HOK hR ⊢
  obtain ⟨rr, hrr⟩ : ∃ b, b = rises ents (max 1 logTerm) term := ⟨_, rfl⟩
  rw [← hrr] at HRI hR
  clear hrr
  obtain ⟨n, hn⟩ : ∃ n, n = ents.length := ⟨_, rfl⟩
  obtain ⟨_, ⟨f0, f1⟩, _, ⟨t0, t1⟩, ⟨i0, i1⟩, ⟨l0, l1⟩, ⟨cc0, cc1⟩, hlen⟩ := HOK.out
  dsimp only at f0 f1 t0 t1 i0 i1 l0 l1 cc0 cc1 hlen
  rw [← hn] at HPL HRI hR hlen ⊢
  clear hn HOK
  have HBAD := Lib.hid (show ¬ (to = (id : Int) ∧ 0 ≤ frm ∧ frm < (nn : Int) ∧ frm ≠ (id : Int) ∧ 1 ≤ term ∧ term ≤ 1152921504606846976 ∧ 0 ≤ index ∧ index ≤ 4096 ∧ 0 ≤ logTerm ∧ logTerm ≤ term ∧ 0 ≤ commit ∧ (n : Int) ≤ 4096 - index) → false = R from fun h => by
    rw [hR]
    symm
    rw [Bool.and_eq_false_iff]
    left
    rw [Bool.not_eq_false']
    simp only [Bool.or_eq_true, decide_eq_true_eq]
    omega)
  have HGOOD := Lib.hid (show (to = (id : Int) ∧ 0 ≤ frm ∧ frm < (nn : Int) ∧ frm ≠ (id : Int) ∧ 1 ≤ term ∧ term ≤ 1152921504606846976 ∧ 0 ≤ index ∧ index ≤ 4096 ∧ 0 ≤ logTerm ∧ logTerm ≤ term ∧ 0 ≤ commit ∧ (n : Int) ≤ 4096 - index) → (pb && rr) = R from fun h => by
    rw [hR]
    have h1 : (decide (to ≠ (id : Int)) || (decide (frm < 0) || decide ((nn : Int) ≤ frm) || decide (frm = (id : Int))) || (decide (term < 1) || decide (1152921504606846976 < term)) || (decide (index < 0) || decide (4096 < index)) || (decide (logTerm < 0) || decide (term < logTerm)) || decide (commit < 0) || decide (4096 - index < (n : Int))) = false := by
      simp only [Bool.or_eq_false_iff, decide_eq_false_iff_not]
      omega
    rw [h1]; rfl)
  clear hR
  have HBX : Hid (Below w.heap.size w (w.alloc (.cells #[.int .u8 (kind : Nat), .int .i64 frm, .int .i64 to, .int .i64 term, .int .i64 index, .int .i64 logTerm, .slice E n c, .int .i64 commit, .bool ok] 34))) := (Below.refl _ w).alloc (Nat.le_refl _) _
  obtain ⟨k0, k1⟩ := HC0.out _ HBX.out
  by_cases ht : to = (id : Int)
  · have b1 : (to != (id : Int)) = false := by rw [ht]; simp
    by_cases hf0 : frm < 0
    · have d0 : decide (frm < 0) = true := decide_eq_true hf0
      have HF := Lib.hid (HBAD.out (by omega))
      clear ht
      go_enter Try.func42, Try.ntmps42
      go_wp2_with fail
      go_quiet (fail)
      go_wp2_with fail
      go_quiet (fail)
      go_wp2_with fail
      go_ret
      exact ⟨ret_bool HF.out, below_drewN (below_drewN HBX.out _) _⟩
    · have d0 : decide (frm < 0) = false := decide_eq_false hf0
      have hf0' : 0 ≤ frm := by omega
      by_cases hf1 : frm < (nn : Int)
      · have d1 : decide ((nn : Int) ≤ frm) = false := decide_eq_false (by omega)
        by_cases hf2 : frm = (id : Int)
        · have d2 : (frm == (id : Int)) = true := by rw [hf2]; simp
          have HF := Lib.hid (HBAD.out (by omega))
          clear ht hf2
          go_enter Try.func42, Try.ntmps42
          go_wp2_with fail
          go_quiet (fail)
          go_wp2_with fail
          go_quiet (fail)
          go_wp2_with fail
          go_ret
          exact ⟨ret_bool HF.out, below_drewN (below_drewN HBX.out _) _⟩
        · have d2 : (frm == (id : Int)) = false := by rw [beq_eq_false_iff_ne]; exact hf2
          have HT := Lib.hid (And.intro ht hf2)
          clear ht hf2
          go_enter Try.func42, Try.ntmps42
          go_wp2_with fail
          go_quiet (fail)
          go_wp2_with fail
          go_quiet (fail)
          go_wp2_with fail
          all_goals try (go_ret; exact ⟨ret_bool (HBAD.out (by have := HT.out; omega)), below_drewN HBX.out _⟩)
          have HG2 := Lib.hid (HGOOD.out (by have := HT.out; omega))
          clear HBAD HGOOD
          refine (HPL.out _).mono ?_
          rintro e w3 ⟨rfl, hb3⟩
          have HB3 := Lib.hid ((below_drewN HBX.out _).trans (hb3.mono (below_drewN HBX.out _).size))
          have HBX3 := Lib.hid (Blk.below (Blk.drewN (Blk.new w 34 #[.int .u8 (kind : Nat), .int .i64 frm, .int .i64 to, .int .i64 term, .int .i64 index, .int .i64 logTerm, .slice E n c, .int .i64 commit, .bool ok]) _) hb3 (by simp))
          clear hb3 k0 k1
          have x3 : w3.cell? ⟨w.heap.size, 3, none⟩ = some (.int .i64 term) := HBX3.out.cell 3
          have x5 : w3.cell? ⟨w.heap.size, 5, none⟩ = some (.int .i64 logTerm) := HBX3.out.cell 5
          have x6 : w3.cell? ⟨w.heap.size, 6, none⟩ = some (.slice E n c) := HBX3.out.cell 6
          have HRI3 := Lib.hid (HRI.out w3 HB3.out)
          cases pb
          · go_wp2_with fail
            go_ret
            exact ⟨ret_bool HG2.out, HB3.out⟩
          · by_cases hl1 : ¬ logTerm ≤ (1 : Int)
            · have hmx : max 1 logTerm = logTerm := by omega
              rw [hmx] at HRI3
              clear hmx HRI
              go_wp2_with fail
              refine HRI3.out.mono ?_
              rintro e w4 ⟨rfl, hb4⟩
              have HB4 := Lib.hid (HB3.out.trans (hb4.mono HB3.out.size))
              clear hb4
              go_wp2_with fail
              go_ret
              exact ⟨ret_bool HG2.out, HB4.out⟩
            · have hmx : max 1 logTerm = 1 := by omega
              rw [hmx] at HRI3
              have hl2 : logTerm ≤ (1 : Int) := by omega
              clear hmx HRI
              go_wp2_with fail
              refine HRI3.out.mono ?_
              rintro e w4 ⟨rfl, hb4⟩
              have HB4 := Lib.hid (HB3.out.trans (hb4.mono HB3.out.size))
              clear hb4
              go_wp2_with fail
              go_ret
              exact ⟨ret_bool HG2.out, HB4.out⟩
      · have d1 : decide ((nn : Int) ≤ frm) = true := decide_eq_true (by omega)
        have HF := Lib.hid (HBAD.out (by omega))
        clear ht
        go_enter Try.func42, Try.ntmps42
        go_wp2_with fail
        go_quiet (fail)
        go_wp2_with fail
        go_quiet (fail)
        go_wp2_with fail
        go_ret
        exact ⟨ret_bool HF.out, below_drewN (below_drewN HBX.out _) _⟩
  · have b1 : (to != (id : Int)) = true := by rw [bne_iff_ne]; exact ht
    have HF := Lib.hid (HBAD.out (by omega))
    clear ht
    go_enter Try.func42, Try.ntmps42
    go_wp2_with fail
    go_quiet (fail)
    go_wp2_with fail
    go_ret
    exact ⟨ret_bool HF.out, below_drewN HBX.out _⟩
end Go.Proofs.Ytjodglepaeomiaa
