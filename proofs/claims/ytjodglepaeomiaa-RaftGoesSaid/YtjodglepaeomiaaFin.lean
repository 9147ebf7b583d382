/- Messages that servers send: few, and of small numbers. Plain. -/
import Derived.Test.YtjodglepaeomiaaNwk
namespace Go.Proofs.Ytjodglepaeomiaa
open Go.RowKit

structure Fine (ms : List Mg) : Prop where
  len : ms.length ≤ 7
  ok : ∀ m ∈ ms, MgOk m
theorem Fine.nil : Fine [] := ⟨by simp, fun m h => by cases h⟩
theorem Fine.one {m : Mg} (h : MgOk m) : Fine [m] := ⟨by simp, fun x hx => by rw [List.mem_singleton] at hx; rw [hx]; exact h⟩
theorem termAt_low {l : List Ent} {t : Int} (h : rises l 1 t = true) (k : Nat) : 0 ≤ termAt l k := by
  rcases Nat.eq_zero_or_pos k with rfl | h1
  · exact Int.le_refl _
  · rcases Nat.lt_or_ge l.length k with h2 | h2
    · rw [termAt_beyond h2]; exact Int.le_refl _
    · have := (rises_ge l 1 t k h h1 h2).1; omega
theorem send_ok {S : Sv} (h : S.Good) {k : Nat} (hk : k < 7) (hx : S.nx.getD k 0 ≤ 4097) : MgOk (S.send k) := by
  have h1 := h.id
  have h2 := h.n
  have h3 := h.t0
  have h4 := h.t1
  have h5 := termAt_low h.log (S.nx.getD k 0 - 1)
  have h6 := termAt_bound h.log h.t0 (S.nx.getD k 0 - 1)
  have h7 := h.com
  have h8 := h.len
  refine ⟨by show 3 < 256; omega, ⟨?_, ?_⟩, ⟨?_, ?_⟩, ⟨?_, ?_⟩, ⟨?_, ?_⟩, ⟨?_, ?_⟩, ⟨?_, ?_⟩, ?_⟩
  · show _ ≤ (S.id : Int); omega
  · show (S.id : Int) ≤ _; omega
  · show _ ≤ (k : Int); omega
  · show (k : Int) ≤ _; omega
  · show _ ≤ S.term; omega
  · show S.term ≤ _; omega
  · show _ ≤ (((S.nx.getD k 0 - 1 : Nat)) : Int); omega
  · show (((S.nx.getD k 0 - 1 : Nat)) : Int) ≤ _; omega
  · show _ ≤ termAt S.log (S.nx.getD k 0 - 1); omega
  · show termAt S.log (S.nx.getD k 0 - 1) ≤ _; omega
  · show _ ≤ (S.commit : Int); omega
  · show (S.commit : Int) ≤ _; omega
  · show (List.drop _ (List.take _ S.log)).length ≤ _
    rw [List.length_drop, List.length_take]
    omega
theorem ks_len (S : Sv) : S.ks.length ≤ S.n := by
  unfold Sv.ks
  exact Nat.le_trans (List.length_filter_le _ _) (by rw [List.length_range]; exact Nat.le_refl _)
theorem ks_lt {S : Sv} {k : Nat} (h : k ∈ S.ks) : k < S.n := by
  unfold Sv.ks at h
  exact List.mem_range.1 (List.mem_filter.1 h).1
theorem outs_fine {S : Sv} (h : S.Good) : Fine S.outs := by
  have hn := h.n
  refine ⟨by unfold Sv.outs; rw [List.length_map]; exact Nat.le_trans (ks_len S) hn, fun m hm => ?_⟩
  unfold Sv.outs at hm
  obtain ⟨k, hk, rfl⟩ := List.mem_map.1 hm
  have := ks_lt hk
  exact send_ok h (by omega) (h.nx4 k)
theorem asks_fine {S : Sv} (h : S.Good) : Fine S.asks := by
  have hn := h.n
  refine ⟨by unfold Sv.asks; rw [List.length_map]; exact Nat.le_trans (ks_len S) hn, fun m hm => ?_⟩
  unfold Sv.asks at hm
  obtain ⟨k, hk, rfl⟩ := List.mem_map.1 hm
  have h0 := ks_lt hk
  have h1 := h.id
  have h2 := h.n
  have h3 := h.t0
  have h4 := h.t1
  have h5 := termAt_low h.log S.log.length
  have h6 := termAt_bound h.log h.t0 S.log.length
  have h8 := h.len
  refine ⟨by show 1 < 256; omega, ⟨?_, ?_⟩, ⟨?_, ?_⟩, ⟨?_, ?_⟩, ⟨?_, ?_⟩, ⟨?_, ?_⟩, ⟨?_, ?_⟩, ?_⟩
  · show _ ≤ (S.id : Int); omega
  · show (S.id : Int) ≤ _; omega
  · show _ ≤ (k : Int); omega
  · show (k : Int) ≤ _; omega
  · show _ ≤ S.term; omega
  · show S.term ≤ _; omega
  · show _ ≤ (S.log.length : Int); omega
  · show (S.log.length : Int) ≤ _; omega
  · show _ ≤ termAt S.log S.log.length; omega
  · show termAt S.log S.log.length ≤ _; omega
  · show _ ≤ (0 : Int); omega
  · show (0 : Int) ≤ _; omega
  · show 0 ≤ _; omega
theorem answ_ok {S : Sv} (h : S.Good) {m : Mg} (hm : MgOk m) {kind : Nat} (hk : kind < 256) {i : Int} (hi : -2 ≤ i ∧ i ≤ 9223372036854775807) {ok : Bool} : MgOk (S.ans m kind i ok) := by
  have h1 := h.id
  have h2 := h.n
  have h3 := h.t0
  have h4 := h.t1
  refine ⟨hk, ⟨?_, ?_⟩, hm.frm, ⟨?_, ?_⟩, ⟨?_, hi.2⟩, ⟨?_, ?_⟩, ⟨?_, ?_⟩, ?_⟩
  · show _ ≤ (S.id : Int); omega
  · show (S.id : Int) ≤ _; omega
  · show _ ≤ S.term; omega
  · show S.term ≤ _; omega
  · show _ ≤ i; omega
  · show _ ≤ (0 : Int); omega
  · show (0 : Int) ≤ _; omega
  · show _ ≤ (0 : Int); omega
  · show (0 : Int) ≤ _; omega
  · show 0 ≤ _; omega
theorem tick_fine {S : Sv} (h : S.Good) : Fine S.tick.2 := by
  have hg := h.tick
  unfold Sv.tick at hg ⊢
  split
  · exact outs_fine h
  · rename_i h1
    rw [if_neg h1] at hg
    split
    · exact .nil
    · rename_i h2
      rw [if_neg h2] at hg
      split
      · rename_i h3
        rw [if_pos h3] at hg
        exact outs_fine hg
      · rename_i h3
        rw [if_neg h3] at hg
        exact asks_fine hg
theorem handle_fine {S : Sv} {m : Mg} (h : S.Good) (hm : MgOk m) : Fine (S.handle m).2 := by
  have hg := h.handle (m := m)
  unfold Sv.handle at hg ⊢
  split
  · rename_i hh
    rw [if_pos hh] at hg
    have hu := h.up (heard hh)
    have hhd := heard hh
    have hun := Sv.up_n S m
    generalize S.up m = T at *
    have hf0 := hhd.frm0
    have hf1 := hhd.frm1
    have hn7 := h.n
    have hi0 := hhd.i0
    have hi1 := hhd.i1
    have hel := hhd.len
    have hlen := hu.len
    have hkf : m.frm.toNat < 7 := by omega
    unfold Sv.does at hg ⊢
    split
    · unfold Sv.asked; split <;> exact .one (answ_ok hu hm (by omega) (by omega))
    · rename_i k1
      rw [if_neg k1] at hg
      split
      · rename_i k2
        rw [if_pos k2] at hg
        unfold Sv.voted at hg ⊢
        split
        · exact .nil
        · rename_i k3
          rw [if_neg k3] at hg
          split
          · exact .nil
          · rename_i k4
            rw [if_neg k4] at hg
            exact outs_fine hg
      · rename_i k2
        rw [if_neg k2] at hg
        split
        · unfold Sv.appended
          split
          · exact .one (answ_ok hu hm (by omega) (by omega))
          · split
            · exact .nil
            · split
              · exact .one (answ_ok hu hm (by omega) (by omega))
              · split
                · split
                  · exact .nil
                  · exact .one (answ_ok hu hm (by omega) (by omega))
                · exact .one (answ_ok hu hm (by omega) (by omega))
        · rename_i k3
          rw [if_neg k3] at hg
          unfold Sv.told at hg ⊢
          split
          · exact .nil
          · rename_i k4
            rw [if_neg k4] at hg
            split
            · rename_i k5
              rw [if_pos k5] at hg
              exact .one (send_ok hg hkf (hg.nx4 _))
            · rename_i k5
              rw [if_neg k5] at hg
              split
              · exact .nil
              · rename_i k6
                rw [if_neg k6] at hg
                exact .one (send_ok hg hkf (hg.nx4 _))
  · exact .nil
/-- A net that stands: in memory, by the plain law, with small messages. -/
structure Up (w : World) (B gN n d : Nat) (X : Nat → Prop) (ps : List (Nat × Sv)) (way : List Mx) (Z : Seen) (v : Nv) : Prop where
  m : NetM w B gN X ps way Z v
  s : Sys n (ps.map (·.2)) (way.map (·.1)) Z d
  o : ∀ x ∈ way, MgOk x.1
def Stands (w : World) (B gN n d c : Nat) (w' : World) : Prop :=
  ∃ X ps way Z v, Up w' B gN n d X ps way Z v ∧ way.length ≤ c ∧ Chg (fun b => B ≤ b) w w'
theorem Up.n {w : World} {B gN n d : Nat} {X : Nat → Prop} {ps : List (Nat × Sv)} {way : List Mx} {Z : Seen} {v : Nv} (h : Up w B gN n d X ps way Z v) : ps.length = n := by
  have := h.s.len; rwa [List.length_map] at this
theorem sv_at {ps : List (Nat × Sv)} {i : Nat} {p : Nat × Sv} (h : ps[i]? = some p) : (ps.map (·.2))[i]? = some p.2 := by rw [List.getElem?_map, h]; rfl
theorem sv_set (ps : List (Nat × Sv)) (i g : Nat) (S : Sv) : (ps.set i (g, S)).map (·.2) = (ps.map (·.2)).set i S := by rw [List.map_set]
end Go.Proofs.Ytjodglepaeomiaa
