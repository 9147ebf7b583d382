/- Contract of the document's appends. -/
import Derived.Test.YtjodglepaeomiaaRsn
namespace Go.Proofs.Ytjodglepaeomiaa
open Go.RowKit

set_option maxRecDepth 100000 in
set_option maxHeartbeats 4000000 in
theorem appends_any (S : Sv) (g : Nat) (A : Option Addr) (c : Nat) (V : List Bool) (P : List (Nat × Nat)) (w : World) (hS : RvM w g S A c V P) (hn : S.n ≤ 7)
    (hdo : ∀ k, k < S.n → k ≠ S.id → ∀ W, Below w.heap.size w W → Calls Try.prog 82 #[.pointer (some ⟨g, 0, none⟩), .int .i64 (k : Nat)] W (SendPost W (S.send k))) :
    Calls Try.prog 71 #[.pointer (some ⟨g, 0, none⟩)] w (OutPost w S.outs) := by
  unfold Sv.outs
  obtain ⟨f, hf⟩ : ∃ f, f = S.send := ⟨_, rfl⟩
  rw [← hf] at hdo ⊢
  clear hf
  have HDO := Lib.hid hdo
  have HC : Hid (∀ W, Below w.heap.size w W → W.cell? ⟨g, 0, none⟩ = some (.int .i64 (S.id : Nat)) ∧ W.cell? ⟨g, 1, none⟩ = some (.int .i64 (S.n : Nat))) := fun W hW => ⟨(hS.below hW).c0, (hS.below hW).c1⟩
  obtain ⟨id, hid_⟩ : ∃ z, z = S.id := ⟨_, rfl⟩
  obtain ⟨n, hnn⟩ : ∃ z, z = S.n := ⟨_, rfl⟩
  unfold Sv.ks
  rw [← hid_, ← hnn] at HC HDO ⊢
  rw [← hnn] at hn
  clear hdo hS hid_ hnn
  go_enter Try.func71, Try.ntmps71
  go_wp2_with fail
  go_loopw [3, 4] (fun s5 s11 wr => ∃ (k m d : Nat) (D : Option Addr), s5 = .slice D m d ∧ s11 = .int .i64 (k : Nat) ∧ k ≤ n ∧ MsR wr w.heap.size D m d ((((List.range k).filter fun k => !decide (k = id))).map f) ∧ Below w.heap.size w wr) (fun _ s11 _ => n - (intOf s11).toNat)
  case atStart => exact ⟨0, 0, 0, none, rfl, rfl, by omega, MsR.nil _ _, Below.refl _ _⟩
  case round =>
    obtain ⟨k, m, d, D, rfl, rfl, hk, hms, hb⟩ := hrel
    have HM := Lib.hid (And.intro hms hb)
    have k0 := (HC.out wr hb).1
    have k1 := (HC.out wr hb).2
    clear hms hb
    by_cases hlt : k < n
    · have hd1 : decide ((k : Int) < (n : Int)) = true := decide_eq_true (by omega)
      by_cases hid : k = id
      · have hi : ((k : Int) != (id : Int)) = false := by simp [hid]
        have HE := Lib.hid hid
        clear hid
        go_wp2_with fail
        go_roundw
        case rel =>
          refine ⟨k + 1, m, d, D, rfl, by go_num, by omega, ?_, HM.out.2⟩
          rw [ks_succ, if_pos HE.out, List.append_nil]
          exact HM.out.1
        case measure => simp [intOf]; omega
      · have hi : ((k : Int) != (id : Int)) = true := by simp; omega
        have HD := Lib.hid (HDO.out k hlt hid wr HM.out.2)
        have HE := Lib.hid hid
        clear hid
        obtain ⟨mg, hmg⟩ : ∃ mg, mg = f k := ⟨_, rfl⟩
        rw [← hmg] at HD
        have HMG := Lib.hid hmg
        clear hmg
        obtain ⟨mk, frm, to, term, index, logTerm, ents, commit, ok⟩ := mg
        unfold SendPost at HD
        dsimp only [mcell] at HD
        have HLE : Hid (∃ z, z = ents.length) := ⟨_, rfl⟩
        obtain ⟨el, hel⟩ := HLE.out
        rw [← hel] at HD
        have HEL := Lib.hid hel
        have hm9 : m ≤ 100000 := by
          have h1 := HM.out.1.len
          rw [List.length_map] at h1
          have h2 := List.length_filter_le (fun k => !decide (k = id)) (List.range k)
          rw [List.length_range] at h2
          omega
        clear hel HLE
        go_wp2_with fail
        refine HD.out.mono ?_
        rintro e w2 ⟨E, ec, rfl, ho2, hb2⟩
        have H2 := Lib.hid (And.intro ho2 (And.intro hb2 (hb2.size)))
        have HBB := Lib.hid HM.out.2.size
        obtain ⟨X, hX1, hX2, hX3, hX4⟩ := HM.out.1
        have HX := Lib.hid (And.intro hX1 (And.intro hX2 (And.intro hX3 hX4)))
        clear ho2 hb2 hX1 hX2 hX3 hX4
        go_wp2_with (at_builtin; refine wpList_app_msg rfl (.tmp 19) (.tmp 23) rfl w.heap.size w2.heap.size m d D (rowOf xcell X) (⟨mk, frm, to, term, index, logTerm, ents, commit, ok⟩, E, ec) rfl ((own_below HX.out.2.2.1 H2.out.2.1).alloc _) rfl (by rw [HEL.out]; exact heap_alloc_new w2 _) hm9 (by have := HBB.out; have := H2.out.2.2; simp; omega) ?_; intro A4 c4 w4 ho4 hg4; have H4 := Lib.hid (And.intro ho4 hg4); clear ho4 hg4)
        go_roundw
        case rel =>
          refine ⟨k + 1, m + 1, c4, A4, rfl, by go_num, by omega, ?_, ?_⟩
          · rw [ks_succ, if_neg HE.out, List.map_append, List.map_singleton, ← HMG.out]
            refine MsR.snoc HX.out.1 HX.out.2.1 HX.out.2.2.1 HX.out.2.2.2 H2.out.2.1 (E := E) (ec := ec) ?_ ((Below.refl w2.heap.size w2).alloc (Nat.le_refl _) _) H4.out.2 H4.out.1
            have h := H2.out.1
            rw [HEL.out] at h
            exact own_at h (fun g hg => Nat.le_trans HBB.out (World.ownsRow.lt h g hg).1)
          · exact ((HM.out.2.trans (H2.out.2.1.mono HBB.out)).alloc (Nat.le_trans HBB.out H2.out.2.2) _).grown H4.out.2 (by have := HBB.out; have := H2.out.2.2; simp; omega) (fun r hr => (World.ownsRow.lt HX.out.2.2.1 r hr).1)
        case measure => simp [intOf]; omega
    · have hd1 : decide ((k : Int) < (n : Int)) = false := decide_eq_false (by omega)
      have hkn : k = n := by omega
      subst hkn
      go_wp2_with fail
      go_ret
      have hl := HM.out.1.len
      refine ⟨D, d, ?_, by rw [← hl]; exact HM.out.1, HM.out.2⟩
      rw [← hl]
      rfl
end Go.Proofs.Ytjodglepaeomiaa
