/- What every server keeps. Plain: no walk. -/
import Derived.Test.YtjodglepaeomiaaTwn
namespace Go.Proofs.Ytjodglepaeomiaa

/-- What holds of every server, and that a term of one who asks or leads is one. -/
structure Sv.Good (S : Sv) : Prop extends S.Ok where
  t2 : S.role ≠ 0 → 1 ≤ S.term
def lastT : Int → List Ent → Int
  | a, [] => a
  | _, x :: r => lastT x.term r
theorem rises_append : ∀ (l m : List Ent) (a b : Int), rises (l ++ m) a b = (rises l a b && rises m (lastT a l) b)
  | [], m, a, b => by simp [rises, lastT]
  | x :: r, m, a, b => by
    rw [List.cons_append]
    simp only [rises, lastT]
    rw [rises_append r m x.term b, Bool.and_assoc]
theorem rises_take {l : List Ent} {a b : Int} (h : rises l a b = true) (i : Nat) : rises (l.take i) a b = true := by
  rw [← List.take_append_drop i l, rises_append, Bool.and_eq_true] at h
  exact h.1
theorem termAt_cons (x : Ent) (r : List Ent) (i : Nat) : termAt (x :: r) (i + 1) = if i = 0 then x.term else termAt r i := by
  cases i with
  | zero => rfl
  | succ i => rw [if_neg (by omega)]; rfl
theorem lastT_take : ∀ (l : List Ent) (a : Int) (i : Nat), i ≤ l.length → lastT a (l.take i) = if i = 0 then a else termAt l i
  | l, a, 0, _ => rfl
  | [], a, i + 1, h => by simp at h
  | x :: r, a, i + 1, h => by
    rw [List.take_succ_cons, lastT, lastT_take r x.term i (by simpa using h), if_neg (Nat.succ_ne_zero i), termAt_cons]
theorem rises_ge : ∀ (l : List Ent) (a b : Int) (i : Nat), rises l a b = true → 0 < i → i ≤ l.length → a ≤ termAt l i ∧ termAt l i ≤ b
  | [], _, _, i, _, h0, h => by simp at h; omega
  | x :: r, a, b, i, h, h0, hl => by
    simp only [rises, Bool.and_eq_true, Bool.not_eq_true', Bool.or_eq_false_iff, decide_eq_false_iff_not] at h
    obtain ⟨j, rfl⟩ : ∃ j, i = j + 1 := ⟨i - 1, by omega⟩
    rw [termAt_cons]
    by_cases hj : j = 0
    · rw [if_pos hj]; omega
    · rw [if_neg hj]
      have := rises_ge r x.term b j h.2 (by omega) (by simpa using hl)
      omega
theorem lastT_max {l : List Ent} {b : Int} (h : rises l 1 b = true) {i : Nat} (hi : i ≤ l.length) : lastT 1 (l.take i) = max 1 (termAt l i) := by
  rw [lastT_take l 1 i hi]
  split
  · rename_i h0; rw [h0]; rfl
  · have := rises_ge l 1 b i h (by omega) hi
    omega
theorem rises_last {l : List Ent} {a b : Int} (h : rises l a b = true) (hab : a ≤ b) : lastT a l ≤ b ∧ a ≤ lastT a l := by
  induction l generalizing a with
  | nil => exact ⟨hab, Int.le_refl _⟩
  | cons x r ih =>
    simp only [rises, Bool.and_eq_true, Bool.not_eq_true', Bool.or_eq_false_iff, decide_eq_false_iff_not] at h
    have := ih h.2 (by omega)
    rw [lastT]; omega
theorem rises_put {l : List Ent} {t : Int} {d : ByteArray} (h : rises l 1 t = true) (ht : 1 ≤ t) (hd : d.size ≤ 65536) : rises (l ++ [⟨t, d⟩]) 1 t = true := by
  rw [rises_append, h, Bool.true_and]
  have := rises_last h ht
  simp only [rises, Bool.and_true, Bool.not_eq_true', Bool.or_eq_false_iff, decide_eq_false_iff_not]
  omega
theorem rises_differs (log : List Ent) : ∀ (ents : List Ent) (i : Nat) (b : Int), rises ents (max 1 (termAt log i)) b = true →
    rises (ents.drop (differs log ents i)) (max 1 (termAt log (i + differs log ents i))) b = true
  | [], i, b, h => by rw [differs]; exact h
  | x :: r, i, b, h => by
    rw [differs]
    split
    · exact h
    · rename_i hc
      have hx : termAt log (i + 1) = x.term := Classical.byContradiction fun e => hc (.inr e)
      have h0 := h
      simp only [rises, Bool.and_eq_true, Bool.not_eq_true', Bool.or_eq_false_iff, decide_eq_false_iff_not] at h
      have h2 := rises_differs log r (i + 1) b (by rw [hx, show max 1 x.term = x.term by omega]; exact h.2)
      rw [List.drop_succ_cons, show i + (differs log r (i + 1) + 1) = i + 1 + differs log r (i + 1) by omega]
      exact h2
theorem agr_ge (S : Sv) : ∀ m, S.commit ≤ S.agr m
  | 0 => Nat.le_refl _
  | m + 1 => by
    rw [Sv.agr]
    split
    · rename_i h
      split
      · omega
      · exact agr_ge S m
    · exact Nat.le_refl _
theorem agr_le (S : Sv) : ∀ m, S.agr m ≤ max S.commit m
  | 0 => by rw [Sv.agr]; omega
  | m + 1 => by
    rw [Sv.agr]
    split
    · rename_i h
      split
      · omega
      · have := agr_le S m; omega
    · omega
theorem setTo_ge (v : Nat) : ∀ (n : Nat) (l : List Nat) (k : Nat), n ≤ k → (setTo v n l).getD k 0 = l.getD k 0
  | 0, l, k, _ => rfl
  | n + 1, l, k, h => by
    rw [setTo]
    rw [List.getD_eq_getElem?_getD, List.getElem?_set_ne (by omega), ← List.getD_eq_getElem?_getD]
    exact setTo_ge v n l k (by omega)
theorem getD_set (l : List Nat) (k v j : Nat) (hk : k < l.length) : (l.set k v).getD j 0 = if j = k then v else l.getD j 0 := by
  by_cases h : j = k
  · rw [if_pos h, h, List.getD_eq_getElem?_getD, List.getElem?_set_self hk]; rfl
  · rw [if_neg h, List.getD_eq_getElem?_getD, List.getElem?_set_ne (fun e => h e.symm), ← List.getD_eq_getElem?_getD]

theorem Sv.Good.agree {S : Sv} (h : S.Good) : S.agree.Good :=
  ⟨⟨h.id, h.n, h.t0, h.t1, h.v0, h.v1, h.len, h.log, h.role, h.l0, h.l1, by show S.agr S.log.length ≤ S.log.length; have := agr_le S S.log.length; have := h.com; omega, h.vot, h.nxl, h.mtl, h.nx4, h.mt4, h.nx1, h.nxm, h.mtm⟩, h.t2⟩
theorem Sv.Good.put {S : Sv} (h : S.Good) (hl : S.log.length < 4096) (hr : S.role ≠ 0) {d : ByteArray} (hd : d.size ≤ 65536) : (S.put d).Good := by
  have e : (S.put d).log.length = S.log.length + 1 := by show (S.log ++ [_]).length = _; rw [List.length_append, List.length_singleton]
  exact ⟨⟨h.id, h.n, h.t0, h.t1, h.v0, h.v1, by rw [e]; omega, rises_put h.log (h.t2 hr) hd, h.role, h.l0, h.l1, by rw [e]; exact Nat.le_succ_of_le h.com, h.vot, h.nxl, h.mtl, h.nx4, h.mt4, h.nx1,
    fun hr k hk => by rw [e]; have := h.nxm hr k hk; show S.nx.getD k 0 ≤ _; omega, fun hr k hk => by rw [e]; have := h.mtm hr k hk; show S.mt.getD k 0 ≤ _; omega⟩, h.t2⟩
theorem Sv.Good.lead1 {S : Sv} (h : S.Good) (ht : 1 ≤ S.term) : S.lead1.Good := by
  have hnx : ∀ k, (setTo (S.log.length + 1) S.n S.nx).getD k 0 = if k < S.n then S.log.length + 1 else S.nx.getD k 0 := fun k => by
    split
    · rename_i hk; exact setTo_get _ _ _ _ hk (by have := h.n; rw [h.nxl]; omega)
    · exact setTo_ge _ _ _ _ (by omega)
  have hmt : ∀ k, (setTo 0 S.n S.mt).getD k 0 = if k < S.n then 0 else S.mt.getD k 0 := fun k => by
    split
    · rename_i hk; exact setTo_get _ _ _ _ hk (by have := h.n; rw [h.mtl]; omega)
    · exact setTo_ge _ _ _ _ (by omega)
  have hid := h.id
  have hn := h.n
  refine ⟨⟨h.id, h.n, h.t0, h.t1, h.v0, h.v1, h.len, h.log, Nat.le_refl _, by show (-1 : Int) ≤ (S.id : Int); omega, by show (S.id : Int) < 7; omega, h.com, h.vot, by show (setTo _ _ _).length = 7; rw [setTo_length]; exact h.nxl, by show (setTo _ _ _).length = 7; rw [setTo_length]; exact h.mtl, ?_, ?_, ?_, ?_, ?_⟩, fun _ => ht⟩
  · intro k; show (setTo _ _ _).getD k 0 ≤ _; rw [hnx]; have := h.nx4 k; have := h.len; split <;> omega
  · intro k; show (setTo _ _ _).getD k 0 ≤ _; rw [hmt]; have := h.mt4 k; split <;> omega
  · intro _ k hk; show 1 ≤ (setTo _ _ _).getD k 0; rw [hnx, if_pos (show k < S.n from hk)]; omega
  · intro _ k hk; show (setTo _ _ _).getD k 0 ≤ S.log.length + 1; rw [hnx, if_pos (show k < S.n from hk)]; exact Nat.le_refl _
  · intro _ k hk; show (setTo _ _ _).getD k 0 ≤ S.log.length; rw [hmt, if_pos (show k < S.n from hk)]; omega
theorem Sv.Good.lead2 {S : Sv} (h : S.Good) (ht : 1 ≤ S.term) : S.lead2.Good := by
  unfold Sv.lead2
  split
  · rename_i hlt
    exact (h.lead1 ht).put hlt (by show (2 : Nat) ≠ 0; omega) (by decide)
  · exact h.lead1 ht
theorem Sv.Good.lead {S : Sv} (h : S.Good) (ht : 1 ≤ S.term) : S.lead.Good := (h.lead2 ht).agree
theorem Sv.Good.cand {S : Sv} (h : S.Good) (ht : S.term ≠ 1152921504606846976) : S.cand.Good := by
  have h0 := h.t0
  have h1 := h.t1
  have hid := h.id
  have hn := h.n
  exact ⟨⟨h.id, h.n, by show 0 ≤ S.term + 1; omega, by show S.term + 1 ≤ _; omega, by show (-1 : Int) ≤ (S.id : Int); omega, by show (S.id : Int) < (S.n : Int); omega, h.len, rises_mono _ _ _ _ (by show S.term ≤ S.term + 1; omega) h.log, by show 1 ≤ 2; omega, by show (-1 : Int) ≤ -1; omega, by show (-1 : Int) < 7; omega, h.com,
    by show 2 ^ S.id < 128; exact Nat.pow_lt_pow_right (by decide) (show S.id < 7 by omega), h.nxl, h.mtl, h.nx4, h.mt4, fun h => absurd (show (1 : Nat) = 2 from h) (by decide), fun h => absurd (show (1 : Nat) = 2 from h) (by decide), fun h => absurd (show (1 : Nat) = 2 from h) (by decide)⟩, fun _ => by show 1 ≤ S.term + 1; omega⟩
theorem Sv.Good.tick {S : Sv} (h : S.Good) : S.tick.1.Good := by
  unfold Sv.tick
  split
  · exact h
  · split
    · exact h
    · rename_i ht
      split
      · exact (h.cand ht).lead (by have := h.t0; show 1 ≤ S.term + 1; omega)
      · exact h.cand ht
theorem Sv.Good.low {S : Sv} (h : S.Good) {t : Int} (h1 : S.term < t) (h2 : t ≤ 1152921504606846976) : (S.low t).Good := ⟨h.toOk.low h1 h2, fun h => absurd (show (0 : Nat) = 0 from rfl) h⟩
theorem Sv.Good.up {S : Sv} {m : Mg} (h : S.Good) (hm : Heard S m) : (S.up m).Good := by
  unfold Sv.up
  split
  · rename_i ht; exact h.low ht hm.t2
  · exact h
theorem Sv.up_n (S : Sv) (m : Mg) : (S.up m).n = S.n := by unfold Sv.up; split <;> rfl
theorem Sv.up_id (S : Sv) (m : Mg) : (S.up m).id = S.id := by unfold Sv.up; split <;> rfl
theorem Sv.up_term (S : Sv) (m : Mg) : m.term ≤ (S.up m).term := by
  unfold Sv.up
  split
  · exact Int.le_refl _
  · omega
theorem Sv.Good.does {S : Sv} {m : Mg} (h : S.Good) (hm : Heard S m) (ht : m.term ≤ S.term) : (S.does m).1.Good := by
  have hf : (m.frm.toNat : Int) = m.frm := by have := hm.frm0; omega
  have hfn : m.frm.toNat < S.n := by have := hm.frm1; omega
  have hn := h.n
  have hix : (m.index.toNat : Int) = m.index := by have := hm.i0; omega
  unfold Sv.does
  split
  · unfold Sv.asked
    split
    · exact ⟨⟨h.id, h.n, h.t0, h.t1, by show -1 ≤ m.frm; have := hm.frm0; omega, hm.frm1, h.len, h.log, h.role, h.l0, h.l1, h.com, h.vot, h.nxl, h.mtl, h.nx4, h.mt4, h.nx1, h.nxm, h.mtm⟩, h.t2⟩
    · exact h
  · split
    · unfold Sv.voted
      have hv1 : (S.vote1 m.frm.toNat).Good := ⟨⟨h.id, h.n, h.t0, h.t1, h.v0, h.v1, h.len, h.log, h.role, h.l0, h.l1, h.com, or_lt h.vot (by omega), h.nxl, h.mtl, h.nx4, h.mt4, h.nx1, h.nxm, h.mtm⟩, h.t2⟩
      split
      · exact h
      · rename_i hc
        split
        · exact hv1
        · exact hv1.lead (h.t2 (fun e => hc (.inl (by rw [e]; decide))))
    · split
      · rename_i hk
        have hti : ¬ m.term < S.term → m.term = S.term := fun h => by omega
        have hfl : (S.foll m.frm).Good := ⟨⟨h.id, h.n, h.t0, h.t1, h.v0, h.v1, h.len, h.log, Nat.zero_le _, by show -1 ≤ m.frm; have := hm.frm0; omega, by show m.frm < 7; have := hm.frm1; omega, h.com, h.vot, h.nxl, h.mtl, h.nx4, h.mt4, fun h => absurd (show (0 : Nat) = 2 from h) (by decide), fun h => absurd (show (0 : Nat) = 2 from h) (by decide), fun h => absurd (show (0 : Nat) = 2 from h) (by decide)⟩, fun h => absurd (show (0 : Nat) = 0 from rfl) h⟩
        unfold Sv.appended
        split
        · exact h
        · rename_i hlt
          split
          · exact h
          · split
            · exact hfl
            · rename_i hpre
              have hil : m.index.toNat ≤ S.log.length := by
                have : ¬ ((S.log.length : Int) < m.index) := fun e => hpre (.inl e)
                omega
              have hterm : termAt S.log m.index.toNat = m.logTerm := Classical.byContradiction fun e => hpre (.inr e)
              have hd1 := differs_le S.log m.ents m.index.toNat
              have hd2 := differs_log S.log m.ents m.index.toNat hil
              have hlen := hm.len
              split
              · rename_i hdf
                split
                · exact hfl
                · rename_i hcm
                  have e : (S.log.take (m.index.toNat + differs S.log m.ents m.index.toNat) ++ m.ents.drop (differs S.log m.ents m.index.toNat)).length = m.index.toNat + m.ents.length := by
                    rw [List.length_append, List.length_take, List.length_drop]; omega
                  refine ⟨⟨h.id, h.n, h.t0, h.t1, h.v0, h.v1, ?_, ?_, hfl.role, hfl.l0, hfl.l1, ?_, h.vot, h.nxl, h.mtl, h.nx4, h.mt4, hfl.nx1, fun h => absurd (show (0 : Nat) = 2 from h) (by decide), fun h => absurd (show (0 : Nat) = 2 from h) (by decide)⟩, hfl.t2⟩
                  · show (S.log.take _ ++ m.ents.drop _).length ≤ 4096
                    rw [e]; omega
                  · show rises (S.log.take _ ++ m.ents.drop _) 1 S.term = true
                    rw [rises_append, rises_take h.log, Bool.true_and, lastT_max h.log hd2]
                    have hr := hm.rises
                    rw [← hterm, hti hlt] at hr
                    exact rises_differs S.log m.ents m.index.toNat S.term hr
                  · show max S.commit (min m.commit.toNat (m.index.toNat + m.ents.length)) ≤ (S.log.take _ ++ m.ents.drop _).length
                    rw [e]; omega
              · rename_i hdf
                refine ⟨⟨h.id, h.n, h.t0, h.t1, h.v0, h.v1, h.len, h.log, hfl.role, hfl.l0, hfl.l1, ?_, h.vot, h.nxl, h.mtl, h.nx4, h.mt4, hfl.nx1, hfl.nxm, hfl.mtm⟩, hfl.t2⟩
                show max S.commit (min m.commit.toNat (m.index.toNat + m.ents.length)) ≤ S.log.length
                have := h.com
                omega
      · unfold Sv.told
        split
        · exact h
        · rename_i hc
          have hr : S.role = 2 := Classical.byContradiction fun e => hc (.inl e)
          have hk7 : m.frm.toNat < S.nx.length := by rw [h.nxl]; omega
          have hk7' : m.frm.toNat < S.mt.length := by rw [h.mtl]; omega
          have b1 := h.mtm hr _ hfn
          have b2 := h.nxm hr _ hfn
          have b3 := h.nx1 hr _ hfn
          have hl := h.len
          split
          · refine ⟨⟨h.id, h.n, h.t0, h.t1, h.v0, h.v1, h.len, h.log, h.role, h.l0, h.l1, h.com, h.vot, by show (List.set _ _ _).length = 7; rw [List.length_set]; exact h.nxl, h.mtl, ?_, h.mt4, ?_, ?_, h.mtm⟩, h.t2⟩
            · intro k; show (List.set _ _ _).getD k 0 ≤ _; rw [getD_set _ _ _ _ hk7]; have := h.nx4 k; split <;> omega
            · intro _ k hk; show 1 ≤ (List.set _ _ _).getD k 0; rw [getD_set _ _ _ _ hk7]; have := h.nx1 hr k hk; split <;> omega
            · intro _ k hk; show (List.set _ _ _).getD k 0 ≤ S.log.length + 1; rw [getD_set _ _ _ _ hk7]; have := h.nxm hr k hk; split <;> omega
          · rename_i hok
            have hil : m.index.toNat ≤ S.log.length := by
              have : ¬ (m.ok = true ∧ (S.log.length : Int) < m.index) := fun e => hc (.inr (.inr e))
              have hok' : m.ok = true := by cases hm : m.ok with | true => rfl | false => exact absurd hm hok
              have : ¬ ((S.log.length : Int) < m.index) := fun e => this ⟨hok', e⟩
              omega
            have hhas : (S.has m.frm.toNat m.index.toNat).Good := by
              refine ⟨⟨h.id, h.n, h.t0, h.t1, h.v0, h.v1, h.len, h.log, h.role, h.l0, h.l1, h.com, h.vot, by show (List.set _ _ _).length = 7; rw [List.length_set]; exact h.nxl, by show (List.set _ _ _).length = 7; rw [List.length_set]; exact h.mtl, ?_, ?_, ?_, ?_, ?_⟩, h.t2⟩
              · intro k; show (List.set _ _ _).getD k 0 ≤ _; rw [getD_set _ _ _ _ hk7]; have := h.nx4 k; split <;> omega
              · intro k; show (List.set _ _ _).getD k 0 ≤ _; rw [getD_set _ _ _ _ hk7']; have := h.mt4 k; split <;> omega
              · intro _ k hk; show 1 ≤ (List.set _ _ _).getD k 0; rw [getD_set _ _ _ _ hk7]; have := h.nx1 hr k hk; split <;> omega
              · intro _ k hk; show (List.set _ _ _).getD k 0 ≤ S.log.length + 1; rw [getD_set _ _ _ _ hk7]; have := h.nxm hr k hk; split <;> omega
              · intro _ k hk; show (List.set _ _ _).getD k 0 ≤ S.log.length; rw [getD_set _ _ _ _ hk7']; have := h.mtm hr k hk; split <;> omega
            split <;> exact hhas.agree
theorem Heard.up {S : Sv} {m : Mg} (h : Heard S m) : Heard (S.up m) m :=
  ⟨h.kind, by rw [S.up_id]; exact h.to, h.frm0, by rw [S.up_n]; exact h.frm1, by rw [S.up_id]; exact h.frm2, h.t1, h.t2, h.i0, h.i1, h.l0, h.l1, h.c0, h.len, h.plain, h.rises⟩
theorem Sv.Good.handle {S : Sv} {m : Mg} (h : S.Good) : (S.handle m).1.Good := by
  unfold Sv.handle
  split
  · rename_i hh
    have hm := heard hh
    exact (h.up hm).does hm.up (S.up_term m)
  · exact h
theorem Sv.Good.propose {S : Sv} {d : ByteArray} (h : S.Good) : (S.propose d).1.Good := by
  unfold Sv.propose
  split
  · exact h
  · split
    · exact h
    · split
      · exact h
      · exact (h.put (by have := h.len; omega) (by omega) (by omega)).agree
theorem begin_good {id n t v : Int} {L : List Ent} (h1 : ¬ (n < 1 ∨ 7 < n ∨ id < 0 ∨ n ≤ id)) (h2 : mayB t v L n = true) : (Sv.begin_ id.toNat n.toNat t v L).Good :=
  ⟨begin_ok h1 h2, fun h => absurd (show (0 : Nat) = 0 from rfl) h⟩
end Go.Proofs.Ytjodglepaeomiaa
