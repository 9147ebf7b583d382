/- What every server keeps beside: votes of its fellows alone. Plain. -/
import Derived.Test.YtjodglepaeomiaaRsm
namespace Go.Proofs.Ytjodglepaeomiaa

structure Sv.Full (S : Sv) : Prop extends S.Good where
  vn : S.voters < 2 ^ S.n
theorem ld_voters (S : Sv) : S.lead.voters = S.voters := by unfold Sv.lead Sv.agree Sv.lead2; split <;> rfl
theorem Sv.Full.tick {S : Sv} (h : S.Full) : S.tick.1.Full := by
  refine ⟨h.toGood.tick, ?_⟩
  have hid := h.id
  unfold Sv.tick
  split
  · exact h.vn
  · split
    · exact h.vn
    · split
      · show S.cand.lead.voters < 2 ^ S.cand.lead.n
        rw [ld_voters, ld_n]
        exact Nat.pow_lt_pow_right (by decide) hid
      · exact Nat.pow_lt_pow_right (by decide) hid
theorem Sv.Full.propose {S : Sv} {d : ByteArray} (h : S.Full) : (S.propose d).1.Full := by
  refine ⟨h.toGood.propose, ?_⟩
  unfold Sv.propose
  split
  · exact h.vn
  · split
    · exact h.vn
    · split <;> exact h.vn
theorem Sv.Full.up {S : Sv} {m : Mg} (h : S.Full) (hm : Heard S m) : (S.up m).Full := by
  refine ⟨h.toGood.up hm, ?_⟩
  unfold Sv.up
  split
  · exact Nat.two_pow_pos _
  · exact h.vn
theorem Sv.Full.does {S : Sv} {m : Mg} (h : S.Full) (hm : Heard S m) (ht : m.term ≤ S.term) : (S.does m).1.Full := by
  refine ⟨h.toGood.does hm ht, ?_⟩
  have hfn : m.frm.toNat < S.n := by have := hm.frm1; have := hm.frm0; omega
  unfold Sv.does
  split
  · unfold Sv.asked; split <;> exact h.vn
  · split
    · unfold Sv.voted
      have hv : (S.vote1 m.frm.toNat).voters < 2 ^ S.n := Nat.or_lt_two_pow h.vn (Nat.pow_lt_pow_right (by decide) hfn)
      split
      · exact h.vn
      · split
        · exact hv
        · show (S.vote1 m.frm.toNat).lead.voters < 2 ^ (S.vote1 m.frm.toNat).lead.n
          rw [ld_voters, ld_n]
          exact hv
    · split
      · unfold Sv.appended
        split
        · exact h.vn
        · split
          · exact h.vn
          · split
            · exact h.vn
            · split
              · split <;> exact h.vn
              · exact h.vn
      · unfold Sv.told
        split
        · exact h.vn
        · split
          · exact h.vn
          · split <;> exact h.vn
theorem Sv.Full.handle {S : Sv} {m : Mg} (h : S.Full) : (S.handle m).1.Full := by
  unfold Sv.handle
  split
  · rename_i hh
    have hm := heard hh
    exact (h.up hm).does hm.up (S.up_term m)
  · exact h
theorem begin_full {id n t v : Int} {L : List Ent} (h1 : ¬ (n < 1 ∨ 7 < n ∨ id < 0 ∨ n ≤ id)) (h2 : mayB t v L n = true) : (Sv.begin_ id.toNat n.toNat t v L).Full :=
  ⟨begin_good h1 h2, Nat.two_pow_pos _⟩
end Go.Proofs.Ytjodglepaeomiaa
