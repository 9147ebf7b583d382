/- Raft's progress, plain: what holds while messages come, how much is to come, and the four turns of the law. No walk. -/
import Derived.Test.YtjodglepaeomiaaSaf
namespace Go.Proofs.Ytjodglepaeomiaa
section

/-- Whoever a message is for hears it. -/
def Hrd (n : Nat) (m : Mg) : Prop := ∀ R : Sv, (R.id : Int) = m.to → R.n = n → R.hears m = true
theorem hears_of {R : Sv} {m : Mg} (h1 : m.to = R.id) (h2 : 0 ≤ m.frm ∧ m.frm < R.n ∧ m.frm ≠ R.id) (h3 : 1 ≤ m.term ∧ m.term ≤ 1152921504606846976) (h4 : 0 ≤ m.index ∧ m.index ≤ 4096) (h5 : 0 ≤ m.logTerm ∧ m.logTerm ≤ m.term)
    (h6 : 0 ≤ m.commit) (h7 : (m.ents.length : Int) ≤ 4096 - m.index) (h8 : m.plain = true) (h9 : rises m.ents (max 1 m.logTerm) m.term = true) : R.hears m = true := by
  unfold Sv.hears
  rw [h8, h9]
  simp only [Bool.and_eq_true, Bool.not_eq_true', Bool.or_eq_false_iff, decide_eq_false_iff_not, Bool.and_self, and_true]
  refine ⟨⟨⟨⟨⟨⟨?_, ⟨?_, ?_⟩, ?_⟩, ?_, ?_⟩, ?_, ?_⟩, ?_, ?_⟩, ?_⟩, ?_⟩ <;> omega
theorem rises_sub {l : List Ent} {t : Int} (h : rises l 1 t = true) {e i : Nat} (hi : i ≤ e) (he : e ≤ l.length) : rises ((l.take e).drop i) (max 1 (termAt l i)) t = true := by
  have h1 := rises_take h e
  rw [← List.take_append_drop i (l.take e), rises_append, Bool.and_eq_true, List.take_take, Nat.min_eq_left hi, lastT_take l 1 i (by omega)] at h1
  have h2 := h1.2
  by_cases h0 : i = 0
  · subst h0
    rw [if_pos rfl] at h2
    exact h2
  · rw [if_neg h0] at h2
    have := (rises_ge l 1 t i h (by omega) (by omega)).1
    rw [show max 1 (termAt l i) = termAt l i by omega]
    exact h2
theorem termAt_zero {l : List Ent} {t : Int} (h : rises l 1 t = true) {i : Nat} (hi : i ≤ l.length) : (((i : Nat) : Int) == 0) = (termAt l i == 0) := by
  by_cases h0 : i = 0
  · subst h0; rfl
  · have := (rises_ge l 1 t i h (by omega) hi).1
    rw [beq_eq_false_iff_ne.2 (by omega), beq_eq_false_iff_ne.2 (by omega)]
theorem termAt_low' {l : List Ent} {t : Int} (h : rises l 1 t = true) (k : Nat) : 0 ≤ termAt l k := by
  rcases Nat.eq_zero_or_pos k with rfl | h1
  · exact Int.le_refl _
  · rcases Nat.lt_or_ge l.length k with h2 | h2
    · rw [termAt_beyond h2]; exact Int.le_refl _
    · have := (rises_ge l 1 t k h h1 h2).1; omega
theorem send_hrd {S : Sv} (hg : S.Good) (hr : S.role = 2) {k : Nat} (hk : k < S.n) (hki : k ≠ S.id) : Hrd S.n (S.send k) := fun R h1 h2 => by
  have e1 := hg.id
  have e2 := hg.t2 (by omega)
  have e3 := hg.t1
  have e4 := hg.nxm hr k hk
  have e5 := hg.nx1 hr k hk
  have e6 := hg.len
  have e7 := termAt_low' hg.log (S.nx.getD k 0 - 1)
  have e8 := termAt_bound hg.log hg.t0 (S.nx.getD k 0 - 1)
  have h1 : (R.id : Int) = (k : Int) := h1
  refine hears_of (show (k : Int) = _ from h1.symm) ⟨?_, ?_, ?_⟩ ⟨e2, e3⟩ ⟨?_, ?_⟩ ⟨e7, e8⟩ ?_ ?_ ?_ ?_
  · show (0 : Int) ≤ (S.id : Int); omega
  · show (S.id : Int) < _; omega
  · show (S.id : Int) ≠ _; omega
  · show (0 : Int) ≤ ((S.nx.getD k 0 - 1 : Nat) : Int); omega
  · show ((S.nx.getD k 0 - 1 : Nat) : Int) ≤ _; omega
  · show (0 : Int) ≤ (S.commit : Int); omega
  · show (((List.drop _ (List.take _ S.log)).length : Nat) : Int) ≤ 4096 - ((S.nx.getD k 0 - 1 : Nat) : Int)
    rw [List.length_drop, List.length_take]
    omega
  · have e9 := termAt_zero hg.log (i := S.nx.getD k 0 - 1) (by omega)
    unfold Mg.plain
    show plB 3 ((((S.nx.getD k 0 - 1 : Nat) : Int)) == 0) (termAt S.log (S.nx.getD k 0 - 1) == 0) _ _ false = true
    rw [e9]
    unfold plB
    cases (termAt S.log (S.nx.getD k 0 - 1) == 0) <;> simp
  · exact rises_sub hg.log (by omega) (by omega)
theorem ask_hrd {S : Sv} (hg : S.Good) (hr : S.role = 1) {k : Nat} (hk : k < S.n) (hki : k ≠ S.id) : Hrd S.n (S.ask k) := fun R h1 h2 => by
  have e1 := hg.id
  have e2 := hg.t2 (by omega)
  have e3 := hg.t1
  have e6 := hg.len
  have e7 := termAt_low' hg.log S.log.length
  have e8 := termAt_bound hg.log hg.t0 S.log.length
  have h1 : (R.id : Int) = (k : Int) := h1
  refine hears_of (show (k : Int) = _ from h1.symm) ⟨?_, ?_, ?_⟩ ⟨e2, e3⟩ ⟨?_, ?_⟩ ⟨e7, e8⟩ (Int.le_refl _) ?_ ?_ rfl
  · show (0 : Int) ≤ (S.id : Int); omega
  · show (S.id : Int) < _; omega
  · show (S.id : Int) ≠ _; omega
  · show (0 : Int) ≤ (S.log.length : Int); omega
  · show (S.log.length : Int) ≤ _; omega
  · show ((0 : Nat) : Int) ≤ 4096 - (S.log.length : Int); omega
  · have e9 := termAt_zero hg.log (i := S.log.length) (Nat.le_refl _)
    unfold Mg.plain
    show plB 1 ((S.log.length : Int) == 0) (termAt S.log S.log.length == 0) _ _ false = true
    rw [e9]
    unfold plB
    cases (termAt S.log S.log.length == 0) <;> simp [Sv.ask]
theorem ans_hrd {S : Sv} (hg : S.Good) (ht : 1 ≤ S.term) {m : Mg} {a : Nat} (ha : m.frm = a) (hai : a ≠ S.id) {kind : Nat} {i : Int} {ok : Bool} (hk : (kind = 2 ∧ i = 0) ∨ kind = 4) (hi : 0 ≤ i ∧ i ≤ 4096) : Hrd S.n (S.ans m kind i ok) := fun R h1 h2 => by
  have e1 := hg.id
  have e3 := hg.t1
  have h1 : (R.id : Int) = m.frm := h1
  rw [ha] at h1
  refine hears_of (show m.frm = _ by rw [ha]; exact h1.symm) ⟨?_, ?_, ?_⟩ ⟨ht, e3⟩ hi ⟨Int.le_refl _, hg.t0⟩ (Int.le_refl _) ?_ ?_ rfl
  · show (0 : Int) ≤ (S.id : Int); omega
  · show (S.id : Int) < _; omega
  · show (S.id : Int) ≠ _; omega
  · show ((0 : Nat) : Int) ≤ 4096 - i; omega
  · unfold Mg.plain plB
    rcases hk with ⟨rfl, rfl⟩ | rfl
    · simp [Sv.ans]
    · simp [Sv.ans]
end
section

def Out (a : Nat) (T : Int) (k : Nat) (m : Mg) : Prop := m.frm = a ∧ m.to = k ∧ m.term = T ∧ (m.kind = 1 ∨ m.kind = 3)
def Bak (a : Nat) (T : Int) (k : Nat) (R : Sv) (m : Mg) : Prop := m.frm = k ∧ m.to = a ∧ m.term = R.term ∧ T ≤ m.term ∧ (m.kind = 2 ∨ m.kind = 4)
def App (A : List Ent) (m : Mg) : Prop := ∃ i : Nat, m.index = i ∧ i + m.ents.length ≤ A.length ∧ m.logTerm = termAt A i ∧ m.ents = (A.take (i + m.ents.length)).drop i
theorem up_facts (R : Sv) (m : Mg) : (R.up m).log = R.log ∧ (R.up m).term = max R.term m.term ∧ (R.up m).commit = R.commit ∧ (R.up m).id = R.id ∧ (R.up m).n = R.n := by
  unfold Sv.up
  split
  · exact ⟨rfl, by show m.term = _; omega, rfl, rfl, rfl⟩
  · exact ⟨rfl, by omega, rfl, rfl, rfl⟩
theorem handle_heard {R : Sv} {m : Mg} (h : R.hears m = true) : R.handle m = (R.up m).does m := by unfold Sv.handle; rw [if_pos h]
theorem ask_step {n a k : Nat} {T : Int} {R : Sv} {m : Mg} (hg : R.Good) (hid : R.id = k) (hn : R.n = n) (hak : a ≠ k) (ho : Out a T k m) (h1 : m.kind = 1) (hh : Hrd n m) :
    ∃ o, (R.handle m).2 = [o] ∧ Bak a T k (R.handle m).1 o ∧ o.kind = 2 ∧ Hrd n o ∧ (R.handle m).1.log = R.log ∧ (R.handle m).1.term = max R.term T ∧
      (R.term < T → ∀ A : List Ent, Gh.UpTo A R.log → m.index = A.length → m.logTerm = termAt A A.length → o.ok = true) := by
  obtain ⟨o1, o2, o3, _⟩ := ho
  have hx := hh R (by rw [o2, hid]) hn
  have hhd := heard hx
  have hu := hg.up hhd
  obtain ⟨u1, u2, u3, u4, u5⟩ := up_facts R m
  rw [handle_heard hx]
  unfold Sv.does
  rw [if_pos h1]
  have ht1 : 1 ≤ (R.up m).term := by rw [u2]; have := hhd.t1; omega
  have hrd : ∀ ok, Hrd n ((R.up m).ans m 2 0 ok) := fun ok => by
    have := ans_hrd hu ht1 (m := m) (a := a) o1 (by rw [u4, hid]; exact hak) (kind := 2) (i := 0) (ok := ok) (.inl ⟨rfl, rfl⟩) ⟨by omega, by omega⟩
    rw [u5, hn] at this
    exact this
  have hbk : ∀ (x : Sv) ok, x.term = (R.up m).term → Bak a T k x ((R.up m).ans m 2 0 ok) := fun x ok hxt => ⟨by show ((R.up m).id : Int) = _; rw [u4, hid], o1, hxt.symm, by show T ≤ (R.up m).term; rw [u2]; omega, .inl rfl⟩
  unfold Sv.asked
  split
  · rename_i hgr
    exact ⟨_, rfl, hbk _ _ rfl, rfl, hrd _, u1, by show (R.up m).term = _; rw [u2, o3], fun _ _ _ _ _ => rfl⟩
  · rename_i hgr
    refine ⟨_, rfl, hbk _ _ rfl, rfl, hrd _, u1, by show (R.up m).term = _; rw [u2, o3], fun hlt A hup hi hl => (hgr ?_).elim⟩
    have hv : (R.up m).vote = -1 := by unfold Sv.up; rw [if_pos (by omega)]; rfl
    unfold Sv.grants
    rw [u1, hv, u2, hi, hl]
    have e1 : decide (m.term = max R.term m.term) = true := decide_eq_true (by omega)
    rw [e1]
    simp only [decide_true, Bool.true_or, Bool.true_and, Bool.or_eq_true, Bool.and_eq_true, decide_eq_true_eq]
    rcases hup with h | ⟨h2, h3⟩
    · exact .inl h
    · exact .inr ⟨h2, by omega⟩
section
variable {n : Nat} {S : Nat → Sv} {M : Mg → Prop} {G : Gh}
theorem Inv.kept' (h : Inv n S M G) {T : Int} {p : List Ent} (hw : G.W T ≠ none) (hp : G.CP n T p) : p <+: G.LL T := by
  rcases hp with rfl | ⟨t, k, ht, hw2, h0, hk, htt, hq, hpre⟩
  · exact List.nil_prefix
  · exact hpre.trans (h.lc' h0 hk hw2 htt hq ht hw)
theorem termAt_get {l : List Ent} {i : Nat} {x : Ent} (h : l[i]? = some x) : termAt l (i + 1) = x.term := by rw [termAt_succ, h]; rfl
/-- What a server that is no leader does with an append. -/
theorem app_step (hI : Inv n S M G) {a k : Nat} (hk : k < n) (hak : a ≠ k) {T : Int} {m : Mg} (hM : M m) (ho : Out a T k m) (h3 : m.kind = 3) (hh : Hrd n m) {A : List Ent} (hap : App A m) (hmono : ∀ i j, 0 < i → i ≤ j → j ≤ A.length → termAt A i ≤ termAt A j) :
    ∃ o, ((S k).handle m).2 = [o] ∧ Bak a T k ((S k).handle m).1 o ∧ o.kind = 4 ∧ Hrd n o ∧ ((S k).handle m).1.term = max (S k).term T ∧ (Gh.UpTo A (S k).log → Gh.UpTo A ((S k).handle m).1.log) ∧
      ((S k).term ≤ T → (o.ok = true ∧ o.index = m.index + (m.ents.length : Int) ∧ ((S k).handle m).1.leader = a ∧ min m.commit (m.index + (m.ents.length : Int)) ≤ (((S k).handle m).1.commit : Int)) ∨
        (o.ok = false ∧ 0 ≤ o.index ∧ o.index + 1 ≤ m.index ∧ ¬ (m.index.toNat ≤ (S k).log.length ∧ termAt (S k).log m.index.toNat = m.logTerm))) := by
  obtain ⟨o1, o2, o3, _⟩ := ho
  obtain ⟨hg, hid, hn⟩ := hI.good k hk
  have hx := hh (S k) (by rw [o2, hid]) hn
  have hhd := heard hx
  have hu := hg.up hhd
  obtain ⟨u1, u2, u3, u4, u5⟩ := up_facts (S k) m
  rw [handle_heard hx]
  unfold Sv.does
  rw [if_neg (by omega), if_neg (by omega), if_pos h3]
  have ht1 : 1 ≤ ((S k).up m).term := by rw [u2]; have := hhd.t1; omega
  have hrd : ∀ i ok, 0 ≤ i ∧ i ≤ 4096 → Hrd n (((S k).up m).ans m 4 i ok) := fun i ok hi => by
    have := ans_hrd hu ht1 (m := m) (a := a) o1 (by rw [u4, hid]; exact hak) (kind := 4) (i := i) (ok := ok) (.inr rfl) hi
    rw [u5, hn] at this
    exact this
  have hbk : ∀ (x : Sv) i ok, x.term = ((S k).up m).term → Bak a T k x (((S k).up m).ans m 4 i ok) := fun x i ok hxt => ⟨by show (((S k).up m).id : Int) = _; rw [u4, hid], o1, hxt.symm, by show T ≤ ((S k).up m).term; rw [u2]; omega, .inr rfl⟩
  have hut : ((S k).up m).term = max (S k).term T := by rw [u2, o3]
  obtain ⟨c, i0, q, k1, k2, k3, _, k5, _, k7, _, _⟩ := (hI.ms m hM).k3 h3
  have hca : c = a := by have : (c : Int) = (a : Int) := by rw [← k1, o1]
                         omega
  subst hca
  rw [o3] at k2 k5 k7
  obtain ⟨i, a1, a2, a3, a4⟩ := hap
  have hii : i0 = i := by omega
  subst hii
  have hwT : G.W T ≠ none := by rw [k2]; exact fun h => by cases h
  have hlen := hu.len
  unfold Sv.appended
  split
  · rename_i hlt
    exact ⟨_, rfl, hbk _ _ _ rfl, rfl, hrd _ _ ⟨by omega, by omega⟩, hut, fun h => by rw [u1]; exact h, fun hle => by rw [hut] at hlt; omega⟩
  · rename_i hge
    have hle : (S k).term ≤ T := by rw [hut] at hge; omega
    split
    · rename_i hr
      exfalso
      by_cases hlt : (S k).term < m.term
      · have : ((S k).up m).role = 0 := by unfold Sv.up; rw [if_pos hlt]; rfl
        omega
      · have e : (S k).up m = S k := by unfold Sv.up; rw [if_neg hlt]
        rw [e] at hr
        have h1 := (hI.lead k hk hr).1
        rw [show (S k).term = T by omega, k2] at h1
        injection h1 with h1
        exact hak h1
    · rename_i hr
      split
      · rename_i hmm
        have hi1 : 1 ≤ m.index := by
          apply Classical.byContradiction
          intro h
          have hi0 : i0 = 0 := by have := hhd.i0; omega
          rcases hmm with h1 | h1
          · omega
          · apply h1
            rw [a3, a1, hi0]
            rfl
        have hmi := hhd.i1
        refine ⟨_, rfl, hbk _ _ _ rfl, rfl, hrd _ _ ⟨by omega, by omega⟩, hut, fun h => by show Gh.UpTo A ((S k).up m).log; rw [u1]; exact h, fun _ => .inr ⟨rfl, ?_, ?_, fun hc => ?_⟩⟩
        · show 0 ≤ min (((S k).up m).log.length : Int) (m.index - 1); omega
        · show min (((S k).up m).log.length : Int) (m.index - 1) + 1 ≤ m.index; omega
        · rw [u1] at hmm
          rcases hmm with h1 | h1
          · omega
          · exact h1 hc.2
      · rename_i hnm
        have hil : i0 ≤ ((S k).up m).log.length := by omega
        have hti : m.index.toNat = i0 := by omega
        have hend : ∀ b : Int, min m.commit (m.index + (m.ents.length : Int)) ≤ ((max ((S k).up m).commit (min m.commit.toNat (m.index.toNat + m.ents.length)) : Nat) : Int) := fun b => by have := hhd.c0; omega
        have hhr : ∀ ok, Hrd n (((S k).up m).ans m 4 ((m.index.toNat + m.ents.length : Nat) : Int) ok) := fun ok => hrd _ _ ⟨by omega, by have := hhd.len; have := hhd.i0; omega⟩
        have hdl := differs_le ((S k).up m).log m.ents m.index.toNat
        split
        · rename_i hd
          obtain ⟨x, hxe⟩ : ∃ x, m.ents[differs ((S k).up m).log m.ents m.index.toNat]? = some x := ⟨_, List.getElem?_eq_getElem hd⟩
          have hde := df_end ((S k).up m).log m.ents m.index.toNat x hxe
          split
          · rename_i hcm
            exfalso
            have hcp : (S k).log.take (S k).commit <+: G.LL T := hI.kept' hwT ((hI.cm k hk).mono hle)
            have hcl := hg.com
            rw [u1, u3] at hcm
            rw [u1] at hde hd hxe
            generalize differs (S k).log m.ents m.index.toNat = d at *
            have hxl := hxe
            rw [k7] at hxl
            have hxl := (drop_get hxl).2
            rcases hde with h1 | h1
            · omega
            · apply h1
              have e1 := termAt_pre hcp (k := m.index.toNat + 1 + d) (by rw [List.length_take]; omega)
              rw [termAt_take (by omega)] at e1
              rw [e1, show m.index.toNat + 1 + d = (i0 + d) + 1 by omega]
              exact termAt_get hxl
          · refine ⟨_, rfl, hbk _ _ _ rfl, rfl, hhr _, hut, fun hup => ?_, fun _ => .inl ⟨rfl, ?_, o1, ?_⟩⟩
            · have hdi : m.index.toNat + differs ((S k).up m).log m.ents m.index.toNat ≤ ((S k).up m).log.length := by
                by_cases h0 : differs ((S k).up m).log m.ents m.index.toNat = 0
                · omega
                · obtain ⟨y, hy⟩ : ∃ y, m.ents[differs ((S k).up m).log m.ents m.index.toNat - 1]? = some y := ⟨_, List.getElem?_eq_getElem (by omega)⟩
                  have := (df_at ((S k).up m).log m.ents m.index.toNat (differs ((S k).up m).log m.ents m.index.toNat - 1) (by omega) y hy).1
                  omega
              generalize differs ((S k).up m).log m.ents m.index.toNat = d at *
              show Gh.UpTo A (((S k).up m).log.take (m.index.toNat + d) ++ m.ents.drop d)
              have hl : (((S k).up m).log.take (m.index.toNat + d) ++ m.ents.drop d).length = i0 + m.ents.length := by rw [List.length_append, List.length_take, List.length_drop]; omega
              obtain ⟨z, hz⟩ : ∃ z, m.ents[m.ents.length - 1]? = some z := ⟨_, List.getElem?_eq_getElem (by omega)⟩
              have hzt : termAt (((S k).up m).log.take (m.index.toNat + d) ++ m.ents.drop d) (i0 + m.ents.length) = z.term := by
                rw [termAt_append (by rw [List.length_take]; omega), List.length_take, Nat.min_eq_left hdi, show i0 + m.ents.length - (m.index.toNat + d) = (m.ents.length - 1 - d) + 1 by omega]
                apply termAt_get
                rw [List.getElem?_drop, show d + (m.ents.length - 1 - d) = m.ents.length - 1 by omega]
                exact hz
              have hza : termAt A (i0 + m.ents.length) = z.term := by
                rw [a4] at hz
                have := (drop_get hz).2
                rw [show i0 + m.ents.length = (i0 + (m.ents.length - 1)) + 1 by omega]
                rw [← a4] at this
                exact termAt_get this
              unfold Gh.UpTo
              rw [hl, hzt, ← hza]
              have h5 := hmono (i0 + m.ents.length) A.length (by omega) a2 (Nat.le_refl _)
              rcases Int.lt_or_eq_of_le h5 with h6 | h6
              · exact .inl h6
              · exact .inr ⟨h6.symm, a2⟩
            · show ((m.index.toNat + m.ents.length : Nat) : Int) = _; omega
            · exact hend 0
        · refine ⟨_, rfl, hbk _ _ _ rfl, rfl, hhr _, hut, fun h => by show Gh.UpTo A ((S k).up m).log; rw [u1]; exact h, fun _ => .inl ⟨rfl, ?_, o1, hend 0⟩⟩
          show ((m.index.toNat + m.ents.length : Nat) : Int) = _; omega
/-- What a leader knows of another one is so. -/
theorem known (hI : Inv n S M G) {a k : Nat} (ha : a < n) (hk : k < n) (hka : k ≠ a) (hr : (S a).role = 2) (ht : (S k).term ≤ (S a).term) {j : Nat} (hj : j ≤ (S a).mt.getD k 0) : j ≤ (S k).log.length ∧ termAt (S k).log j = termAt (S a).log j := by
  by_cases h0 : j = 0
  · subst h0; exact ⟨Nat.zero_le _, rfl⟩
  obtain ⟨h1, h2, h3⟩ := hI.lead a ha hr
  have hL := (hI.good a ha).1.mtm hr k (by rw [(hI.good a ha).2.2]; exact hk)
  rcases hI.h1 (S a).term k j hk (.inr (Nat.le_trans hj (h3 k hk hka))) (by omega) (by rw [h1]; exact fun h => by cases h) with h4 | ⟨u, h4, h5, _⟩
  · rw [h2] at h4
    have hl : ((S a).log.take j).length = j := by rw [List.length_take]; omega
    have h5 := h4.length_le
    rw [hl] at h5
    have h6 := termAt_pre h4 (k := j) (by omega)
    rw [termAt_take (Nat.le_refl _)] at h6
    exact ⟨h5, h6.symm⟩
  · omega
end
end
section

def con12 (k : Nat) (m : Mg) : Bool := decide ((m.kind = 1 ∧ m.to = k) ∨ (m.kind = 2 ∧ m.frm = k))
def con34 (k : Nat) (m : Mg) : Bool := decide ((m.kind = 3 ∧ m.to = k) ∨ (m.kind = 4 ∧ m.frm = k))
def Conv (T : Int) (A : Sv) (way : List Mg) (k : Nat) : Prop :=
  (∀ m ∈ way, m.kind = 3 → m.to = k → m.index + 1 = (A.nx.getD k 0 : Nat) ∧ m.ents.length = min A.log.length (A.nx.getD k 0 - 1 + 16) - (A.nx.getD k 0 - 1)) ∧
  (∀ m ∈ way, m.kind = 4 → m.frm = k → m.term = T → (m.ok = true → m.index = ((min A.log.length (A.nx.getD k 0 - 1 + 16) : Nat) : Int)) ∧ (m.ok = false → 0 ≤ m.index ∧ m.index + 2 ≤ (A.nx.getD k 0 : Nat) ∧ A.mt.getD k 0 + 2 ≤ A.nx.getD k 0)) ∧
  ((∃ m ∈ way, (m.kind = 3 ∧ m.to = k) ∨ (m.kind = 4 ∧ m.frm = k)) ∨ A.mt.getD k 0 = A.log.length)
/-- What holds while messages of one server's turn, and answers to them, come. -/
structure Rn (n a : Nat) (T : Int) (fr : Prop) (S : Nat → Sv) (way : List Mg) : Prop where
  hs : ∀ m ∈ way, Hrd n m
  kd : ∀ m ∈ way, ∃ k, k < n ∧ k ≠ a ∧ (Out a T k m ∨ Bak a T k (S k) m)
  c1 : ∀ k, k < n → k ≠ a → way.countP (con12 k) ≤ 1
  c3 : ∀ k, k < n → k ≠ a → way.countP (con34 k) ≤ 1
  tm : ∀ k, k < n → k ≠ a → (∃ m ∈ way, Out a T k m ∨ Bak a T k (S k) m) ∨ (S k).term ≤ (S a).term
  tl : T ≤ (S a).term
  tr : (S a).role ≠ 0 → (S a).term = T
  up : ∀ k, k < n → Gh.UpTo (S a).log (S k).log
  ap : ∀ m ∈ way, m.kind = 3 → App (S a).log m
  ld : (S a).role = 2 → ∀ k, k < n → k ≠ a → Conv T (S a) way k
  cd : (S a).role = 1 → (∀ m ∈ way, m.kind = 1 ∨ m.kind = 2) ∧ 2 * ones (S a).voters 7 ≤ n ∧ ∀ m ∈ way, m.kind = 1 → m.index = (S a).log.length ∧ m.logTerm = termAt (S a).log (S a).log.length
  cv : (S a).role = 1 → (S a).voters.testBit a = true
  cf : fr → (S a).role = 1 → ∀ k, k < n → k ≠ a → (∃ m ∈ way, m.kind = 1 ∧ m.to = k ∧ (S k).term < T) ∨ (∃ m ∈ way, m.kind = 2 ∧ m.frm = k ∧ m.ok = true) ∨ (S a).voters.testBit k = true
  fs : fr → (S a).role ≠ 0 ∧ ∀ k, k < n → (S k).term ≤ T
theorem con_none {p : Mg → Bool} {m : Mg} {r : List Mg} (h : (m :: r).countP p ≤ 1) (hm : p m = true) : ∀ x ∈ r, p x = false := by
  rw [List.countP_cons_of_pos hm] at h
  have h0 : r.countP p = 0 := by omega
  intro x hx
  have := List.countP_eq_zero.1 h0 x hx
  simpa using this
theorem count_swap {p : Mg → Bool} {m o : Mg} {r : List Mg} (h : p o = p m) : (r ++ [o]).countP p = (m :: r).countP p := by
  rw [List.countP_append, List.countP_cons, List.countP_cons, List.countP_nil, h]
  omega
section
variable {n : Nat} {S : Nat → Sv} {M : Mg → Prop} {G : Gh} {a : Nat} {T : Int} {fr : Prop}
theorem UpTo.refl (A : List Ent) : Gh.UpTo A A := .inr ⟨rfl, Nat.le_refl _⟩
/-- A server hears an ask or an append. -/
theorem Rn.out {m : Mg} {r : List Mg} (h : Rn n a T fr S (m :: r)) (hI : Inv n S M G) (hM : M m) (ha : a < n) {k : Nat} (hk : k < n) (hka : k ≠ a) (ho : Out a T k m) :
    ∃ o, ((S k).handle m).2 = [o] ∧ Rn n a T fr (upd S k ((S k).handle m).1) (r ++ [o]) ∧ ((m.kind = 1 ∧ o.kind = 2) ∨ (m.kind = 3 ∧ o.kind = 4)) ∧ o.frm = k ∧
      (m.kind = 3 → (S k).term ≤ T → (o.ok = true ∧ o.index = m.index + (m.ents.length : Int) ∧ ((S k).handle m).1.leader = a ∧ min m.commit (m.index + (m.ents.length : Int)) ≤ (((S k).handle m).1.commit : Int)) ∨
        (o.ok = false ∧ ¬ (m.index.toNat ≤ (S k).log.length ∧ termAt (S k).log m.index.toNat = m.logTerm))) := by
  obtain ⟨hg, hid, hn⟩ := hI.good k hk
  have hhm := h.hs m List.mem_cons_self
  have key : ∃ o, ((S k).handle m).2 = [o] ∧ Bak a T k ((S k).handle m).1 o ∧ ((m.kind = 1 ∧ o.kind = 2) ∨ (m.kind = 3 ∧ o.kind = 4)) ∧ Hrd n o ∧ ((S k).handle m).1.term = max (S k).term T ∧ (Gh.UpTo (S a).log (S k).log → Gh.UpTo (S a).log ((S k).handle m).1.log) ∧
      (m.kind = 1 → (S k).term < T → (S a).role = 1 → o.ok = true) ∧ (m.kind = 3 → (S k).term ≤ T → (o.ok = true ∧ o.index = m.index + (m.ents.length : Int) ∧ ((S k).handle m).1.leader = a ∧ min m.commit (m.index + (m.ents.length : Int)) ≤ (((S k).handle m).1.commit : Int)) ∨
        (o.ok = false ∧ 0 ≤ o.index ∧ o.index + 1 ≤ m.index ∧ ¬ (m.index.toNat ≤ (S k).log.length ∧ termAt (S k).log m.index.toNat = m.logTerm))) := by
    rcases ho.2.2.2 with h1 | h3
    · obtain ⟨o, e1, e2, e3, e4, e5, e6, e7⟩ := ask_step hg hid hn (fun e => hka e.symm) ho h1 hhm
      refine ⟨o, e1, e2, .inl ⟨h1, e3⟩, e4, e6, fun hu => by rw [e5]; exact hu, fun _ hlt hr => ?_, fun h3 => by omega⟩
      have := (h.cd hr).2.2 m List.mem_cons_self h1
      exact e7 hlt _ (h.up k hk) this.1 this.2
    · obtain ⟨o, e1, e2, e3, e4, e5, e6, e7⟩ := app_step hI hk (fun e => hka e.symm) hM ho h3 hhm (h.ap m List.mem_cons_self h3) (fun i j h0 hij hj => hI.mono_ (hI.snd a ha) h0 hij hj)
      exact ⟨o, e1, e2, .inr ⟨h3, e3⟩, e4, e5, e6, fun h1 => by omega, fun _ => e7⟩
  obtain ⟨o, e1, e2, e3, e4, e5, e6, e7, e8⟩ := key
  obtain ⟨b1, b2, b3, b4, b5⟩ := e2
  obtain ⟨o1, o2, o3, o4⟩ := ho
  generalize hX : ((S k).handle m).1 = x at *
  have hak : a ≠ k := fun e => hka e.symm
  have hSa : upd S k x a = S a := upd_ne _ _ hak
  have q12 : ∀ j, con12 j o = con12 j m := fun j => by
    unfold con12
    rcases e3 with ⟨e, e'⟩ | ⟨e, e'⟩ <;> rw [e, e', o2, b1] <;> simp
  have q34 : ∀ j, con34 j o = con34 j m := fun j => by
    unfold con34
    rcases e3 with ⟨e, e'⟩ | ⟨e, e'⟩ <;> rw [e, e', o2, b1] <;> simp
  have ok3 : o.kind ≠ 3 := by rcases e3 with ⟨_, e⟩ | ⟨_, e⟩ <;> omega
  have ok1 : o.kind ≠ 1 := by rcases e3 with ⟨_, e⟩ | ⟨_, e⟩ <;> omega
  have mk24 : m.kind ≠ 2 ∧ m.kind ≠ 4 := by rcases e3 with ⟨e, _⟩ | ⟨e, _⟩ <;> omega
  have e31 : m.kind = 1 → o.kind = 2 := fun e => by rcases e3 with h | h <;> omega
  have e33 : m.kind = 3 → o.kind = 4 := fun e => by rcases e3 with h | h <;> omega
  have hmr : ∀ {x : Mg}, x ∈ r → x ∈ m :: r := fun hx => List.mem_cons_of_mem _ hx
  have split : ∀ {x : Mg}, x ∈ r ++ [o] → x ∈ r ∨ x = o := fun hx => by
    rcases List.mem_append.1 hx with h | h
    · exact .inl h
    · exact .inr (List.mem_singleton.1 h)
  have inl : ∀ {x : Mg}, x ∈ r → x ∈ r ++ [o] := fun hx => List.mem_append_left _ hx
  have ino : o ∈ r ++ [o] := List.mem_append_right _ (List.mem_singleton.2 rfl)
  refine ⟨o, e1, ⟨fun y hy => ?_, fun y hy => ?_, fun j hj hja => ?_, fun j hj hja => ?_, fun j hj hja => ?_, by rw [hSa]; exact h.tl, by rw [hSa]; exact h.tr, fun j hj => ?_, fun y hy h3 => ?_, fun hr j hj hja => ?_, fun hr => ?_, by rw [hSa]; exact h.cv, fun hf hr j hj hja => ?_, fun hf => ?_⟩, e3, b1, fun h3 ht => (e8 h3 ht).imp id (fun h => ⟨h.1, h.2.2.2⟩)⟩
  · rcases split hy with hy | rfl
    · exact h.hs y (hmr hy)
    · exact e4
  · rcases split hy with hy | rfl
    · obtain ⟨j, hj, hja, hjj⟩ := h.kd y (hmr hy)
      refine ⟨j, hj, hja, hjj.imp id (fun hb => ?_)⟩
      by_cases hjk : j = k
      · subst hjk
        rw [upd_same]
        obtain ⟨f1, f2, f3, f4, f5⟩ := hb
        exact ⟨f1, f2, by rw [e5, f3]; omega, f4, f5⟩
      · rw [upd_ne _ _ hjk]; exact hb
    · exact ⟨k, hk, hka, .inr (by rw [upd_same]; exact ⟨b1, b2, b3, b4, b5⟩)⟩
  · rw [count_swap (q12 j)]; exact h.c1 j hj hja
  · rw [count_swap (q34 j)]; exact h.c3 j hj hja
  · by_cases hjk : j = k
    · subst hjk
      exact .inl ⟨o, ino, .inr (by rw [upd_same]; exact ⟨b1, b2, b3, b4, b5⟩)⟩
    · rw [hSa, upd_ne _ _ hjk]
      rcases h.tm j hj hja with ⟨y, hy, hyy⟩ | h2
      · rcases List.mem_cons.1 hy with rfl | hy
        · rcases hyy with hyy | hyy
          · have := hyy.2.1; omega
          · have := hyy.1; omega
        · exact .inl ⟨y, inl hy, hyy⟩
      · exact .inr h2
  · rw [hSa]
    by_cases hjk : j = k
    · subst hjk; rw [upd_same]; exact e6 (h.up j hj)
    · rw [upd_ne _ _ hjk]; exact h.up j hj
  · rw [hSa]
    rcases split hy with hy | rfl
    · exact h.ap y (hmr hy) h3
    · exact absurd h3 ok3
  · rw [hSa] at hr ⊢
    obtain ⟨v1, v2, v3⟩ := h.ld hr j hj hja
    refine ⟨fun y hy h3 ht => ?_, fun y hy h4 hf hyt => ?_, ?_⟩
    · rcases split hy with hy | rfl
      · exact v1 y (hmr hy) h3 ht
      · exact absurd h3 ok3
    · rcases split hy with hy | rfl
      · exact v2 y (hmr hy) h4 hf hyt
      · have hjk : j = k := by omega
        subst hjk
        have hm3 : m.kind = 3 := by rcases e3 with ⟨_, e⟩ | ⟨e, _⟩; omega; exact e
        have hle : (S j).term ≤ T := by omega
        have hw := v1 m List.mem_cons_self hm3 o2
        have hga := (hI.good a ha).1
        have hna := (hI.good a ha).2.2
        have hnx := hga.nxm hr j (by omega)
        have hnx1 := hga.nx1 hr j (by omega)
        rcases e8 hm3 hle with ⟨f1, f2, _, _⟩ | ⟨f1, f2, f3, f4⟩
        · exact ⟨fun _ => by rw [f2]; omega, fun hk0 => by rw [f1] at hk0; cases hk0⟩
        · refine ⟨(fun hk0 => by rw [f1] at hk0; cases hk0), fun _ => ⟨f2, by omega, ?_⟩⟩
          apply Classical.byContradiction
          intro hc
          apply f4
          have hkn := known hI ha hj hja hr (by rw [h.tr (by omega)]; exact hle) (j := m.index.toNat) (by omega)
          obtain ⟨i, a1, a2, a3, a4⟩ := h.ap m List.mem_cons_self hm3
          refine ⟨hkn.1, ?_⟩
          rw [hkn.2, a3, a1]
          rfl
    · rcases v3 with ⟨y, hy, hyy⟩ | h2
      · rcases List.mem_cons.1 hy with rfl | hy
        · rcases hyy with ⟨f1, f2⟩ | ⟨f1, f2⟩
          · have hjk : j = k := by omega
            subst hjk
            exact .inl ⟨o, ino, .inr ⟨e33 f1, b1⟩⟩
          · exact absurd f1 mk24.2
        · exact .inl ⟨y, inl hy, hyy⟩
      · exact .inr h2
  · rw [hSa] at hr ⊢
    obtain ⟨v1, v2, v3⟩ := h.cd hr
    have hm1 := v1 m List.mem_cons_self
    refine ⟨fun y hy => ?_, v2, fun y hy h1 => ?_⟩
    · rcases split hy with hy | rfl
      · exact v1 y (hmr hy)
      · exact .inr (e31 (by omega))
    · rcases split hy with hy | rfl
      · exact v3 y (hmr hy) h1
      · exact absurd h1 ok1
  · rw [hSa] at hr ⊢
    have hm1 := (h.cd hr).1 m List.mem_cons_self
    by_cases hjk : j = k
    · subst hjk
      rcases h.cf hf hr j hj hja with ⟨y, hy, h1, h2, h4⟩ | ⟨y, hy, h1, h2, h4⟩ | h2
      · exact .inr (.inl ⟨o, ino, e31 (by omega), b1, e7 (by omega) h4 hr⟩)
      · rcases List.mem_cons.1 hy with rfl | hy
        · exact absurd h1 mk24.1
        · exact .inr (.inl ⟨y, inl hy, h1, h2, h4⟩)
      · exact .inr (.inr h2)
    · rw [upd_ne _ _ hjk]
      rcases h.cf hf hr j hj hja with ⟨y, hy, h1, h2, h4⟩ | ⟨y, hy, h1, h2, h4⟩ | h2
      · rcases List.mem_cons.1 hy with rfl | hy
        · omega
        · exact .inl ⟨y, inl hy, h1, h2, h4⟩
      · rcases List.mem_cons.1 hy with rfl | hy
        · exact absurd h1 mk24.1
        · exact .inr (.inl ⟨y, inl hy, h1, h2, h4⟩)
      · exact .inr (.inr h2)
  · rw [hSa]
    obtain ⟨v1, v2⟩ := h.fs hf
    refine ⟨v1, fun j hj => ?_⟩
    by_cases hjk : j = k
    · subst hjk; rw [upd_same, e5]; have := v2 j hj; omega
    · rw [upd_ne _ _ hjk]; exact v2 j hj
end
end
section

theorem low_handle {A : Sv} {m : Mg} (hh : A.hears m = true) (hk : m.kind = 2 ∨ m.kind = 4) (hlt : A.term < m.term) : A.handle m = (A.low m.term, []) := by
  rw [handle_heard hh]
  have e : A.up m = A.low m.term := by unfold Sv.up; rw [if_pos hlt]
  rw [e]
  unfold Sv.does
  rw [if_neg (by omega)]
  rcases hk with hk | hk
  · rw [if_pos hk]
    unfold Sv.voted
    rw [if_pos (.inl (show (0 : Nat) ≠ 1 by decide))]
  · rw [if_neg (by omega), if_neg (by omega)]
    unfold Sv.told
    rw [if_pos (.inl (show (0 : Nat) ≠ 2 by decide))]
theorem vote_handle {A : Sv} {m : Mg} (hh : A.hears m = true) (hk : m.kind = 2) (hle : ¬ A.term < m.term) : A.handle m = A.voted m := by
  rw [handle_heard hh]
  have e : A.up m = A := by unfold Sv.up; rw [if_neg hle]
  rw [e]
  unfold Sv.does
  rw [if_neg (by omega), if_pos hk]
theorem told_handle {A : Sv} {m : Mg} (hh : A.hears m = true) (hk : m.kind = 4) (hle : ¬ A.term < m.term) : A.handle m = A.told m := by
  rw [handle_heard hh]
  have e : A.up m = A := by unfold Sv.up; rw [if_neg hle]
  rw [e]
  unfold Sv.does
  rw [if_neg (by omega), if_neg (by omega), if_neg (by omega)]
theorem send_app {A : Sv} {k : Nat} (h : A.nx.getD k 0 - 1 ≤ A.log.length) : App A.log (A.send k) ∧ (A.send k).ents.length = min A.log.length (A.nx.getD k 0 - 1 + 16) - (A.nx.getD k 0 - 1) := by
  have hl : (A.send k).ents.length = min A.log.length (A.nx.getD k 0 - 1 + 16) - (A.nx.getD k 0 - 1) := by
    show (List.drop _ (List.take _ A.log)).length = _
    rw [List.length_drop, List.length_take]
    omega
  refine ⟨⟨A.nx.getD k 0 - 1, rfl, by omega, rfl, ?_⟩, hl⟩
  rw [hl, show A.nx.getD k 0 - 1 + (min A.log.length (A.nx.getD k 0 - 1 + 16) - (A.nx.getD k 0 - 1)) = min A.log.length (A.nx.getD k 0 - 1 + 16) by omega]
  rfl
theorem range_count (p : Nat → Bool) (j : Nat) (hp : ∀ i, p i = true → i = j) : ∀ N, (List.range N).countP p ≤ if j < N then 1 else 0
  | 0 => by simp
  | N + 1 => by
    have ih := range_count p j hp N
    rw [List.range_succ, List.countP_append, List.countP_cons, List.countP_nil]
    by_cases h : p N = true
    · have e := hp N h
      rw [if_pos h]
      rw [if_neg (by omega)] at ih
      rw [if_pos (by omega)]
      omega
    · rw [if_neg h]
      split
      · split at ih <;> omega
      · rw [if_neg (by omega)] at ih; omega
theorem countP_filter_le {α : Type} (p q : α → Bool) : ∀ l : List α, (l.filter q).countP p ≤ l.countP p
  | [] => Nat.le_refl _
  | x :: r => by
    have ih := countP_filter_le p q r
    rw [List.filter_cons]
    split
    · rw [List.countP_cons, List.countP_cons]; omega
    · rw [List.countP_cons]; omega
theorem outs_count (A : Sv) (j : Nat) : A.outs.countP (con34 j) ≤ 1 := by
  unfold Sv.outs Sv.ks
  rw [List.countP_map]
  refine Nat.le_trans (countP_filter_le _ _ _) ?_
  have := range_count (con34 j ∘ A.send) j (fun i hi => by
    have : ((3 = 3 ∧ ((i : Nat) : Int) = (j : Int)) ∨ ((3 : Nat) = 4 ∧ (A.id : Int) = (j : Int))) := of_decide_eq_true (show con34 j (A.send i) = true from hi)
    rcases this with ⟨_, h⟩ | ⟨h, _⟩
    · omega
    · cases h) A.n
  split at this <;> omega
def Qk (A : Sv) (k : Nat) : Nat := if A.role = 2 then 2 * (A.nx.getD k 0 - A.mt.getD k 0 - 1) + 2 * ((A.log.length - A.mt.getD k 0 + 15) / 16) else 0
def wt (A : Sv) (m : Mg) : Nat := if m.kind = 1 then 2 else if m.kind = 2 then 1 else if m.kind = 3 then 2 + Qk A m.to.toNat else 1 + Qk A m.frm.toNat
def Rv (A : Sv) : Nat := if A.role = 1 then 7 * (2 + 2 * A.log.length + 2 * ((A.log.length + 16) / 16)) else 0
def wts (A : Sv) : List Mg → Nat
  | [] => 0
  | m :: r => wt A m + wts A r
def Phi (A : Sv) (way : List Mg) : Nat := Rv A + wts A way
theorem wts_append (A : Sv) (r o : List Mg) : wts A (r ++ o) = wts A r + wts A o := by
  induction r with
  | nil => simp [wts]
  | cons x r ih => rw [List.cons_append, wts, wts, ih]; omega
theorem wts_le {A B : Sv} : ∀ {r : List Mg}, (∀ x ∈ r, wt A x ≤ wt B x) → wts A r ≤ wts B r
  | [], _ => Nat.le_refl _
  | x :: r, h => by
    have h1 := h x List.mem_cons_self
    have h2 := wts_le (r := r) (fun y hy => h y (List.mem_cons_of_mem _ hy))
    rw [wts, wts]; omega
theorem wts_const {A : Sv} {c : Nat} : ∀ {r : List Mg}, (∀ x ∈ r, wt A x ≤ c) → wts A r ≤ r.length * c
  | [], _ => by rw [wts]; omega
  | x :: r, h => by
    have h1 := h x List.mem_cons_self
    have h2 := wts_const (r := r) (fun y hy => h y (List.mem_cons_of_mem _ hy))
    rw [wts, List.length_cons, Nat.succ_mul]; omega
theorem wt_pos (A : Sv) (m : Mg) : 1 ≤ wt A m := by unfold wt; split; omega; split; omega; split <;> omega
section
variable {n : Nat} {S : Nat → Sv} {M : Mg → Prop} {G : Gh} {a : Nat} {T : Int} {fr : Prop}
theorem Rn.bak {m : Mg} {r : List Mg} (h : Rn n a T fr S (m :: r)) (ha : a < n) {k : Nat} (hka : k ≠ a) (hb : Bak a T k (S k) m) {A' : Sv} {out : List Mg}
    (hup : ∀ j, j < n → j ≠ a → Gh.UpTo A'.log (S j).log) (hap : ∀ x ∈ r ++ out, x.kind = 3 → App A'.log x) (ht : (S a).term ≤ A'.term) (hmt : m.term ≤ A'.term) (htr : A'.role ≠ 0 → A'.term = T)
    (ho : ∀ o ∈ out, Hrd n o ∧ o.kind = 3 ∧ ∃ j, j < n ∧ j ≠ a ∧ Out a T j o) (hc3 : ∀ j, j < n → j ≠ a → (r ++ out).countP (con34 j) ≤ 1)
    (hld : A'.role = 2 → ∀ j, j < n → j ≠ a → Conv T A' (r ++ out) j)
    (hcd : A'.role = 1 → (∀ x ∈ r ++ out, x.kind = 1 ∨ x.kind = 2) ∧ 2 * ones A'.voters 7 ≤ n ∧ ∀ x ∈ r ++ out, x.kind = 1 → x.index = A'.log.length ∧ x.logTerm = termAt A'.log A'.log.length)
    (hcv : A'.role = 1 → A'.voters.testBit a = true) (hcf : fr → A'.role = 1 → ∀ j, j < n → j ≠ a → (∃ x ∈ r ++ out, x.kind = 1 ∧ x.to = j ∧ (S j).term < T) ∨ (∃ x ∈ r ++ out, x.kind = 2 ∧ x.frm = j ∧ x.ok = true) ∨ A'.voters.testBit j = true)
    (hfs : fr → A'.role ≠ 0 ∧ A'.term ≤ T) : Rn n a T fr (upd S a A') (r ++ out) := by
  have hSa : upd S a A' a = A' := upd_same _ _ _
  have hSj : ∀ {j}, j ≠ a → upd S a A' j = S j := fun hj => upd_ne _ _ hj
  have hmr : ∀ {x : Mg}, x ∈ r → x ∈ m :: r := fun hx => List.mem_cons_of_mem _ hx
  have inl : ∀ {x : Mg}, x ∈ r → x ∈ r ++ out := fun hx => List.mem_append_left _ hx
  refine ⟨fun y hy => ?_, fun y hy => ?_, fun j hj hja => ?_, hc3, fun j hj hja => ?_, by rw [hSa]; exact Int.le_trans h.tl ht, by rw [hSa]; exact htr, fun j hj => ?_, fun y hy h3 => by rw [hSa]; exact hap y hy h3, fun hr => by rw [hSa] at hr ⊢; exact hld hr,
    fun hr => by rw [hSa] at hr ⊢; exact hcd hr, by rw [hSa]; exact hcv, fun hf hr j hj hja => by rw [hSa] at hr ⊢; rw [hSj hja]; exact hcf hf hr j hj hja, fun hf => ?_⟩
  · rcases List.mem_append.1 hy with hy | hy
    · exact h.hs y (hmr hy)
    · exact (ho y hy).1
  · rcases List.mem_append.1 hy with hy | hy
    · obtain ⟨j, hj, hja, hjj⟩ := h.kd y (hmr hy)
      exact ⟨j, hj, hja, by rw [hSj hja]; exact hjj⟩
    · obtain ⟨_, _, j, hj, hja, hjj⟩ := ho y hy
      exact ⟨j, hj, hja, .inl hjj⟩
  · have h0 : out.countP (con12 j) = 0 := List.countP_eq_zero.2 (fun x hx => by
      have := (ho x hx).2.1
      unfold con12
      simp [this])
    have h1 := h.c1 j hj hja
    rw [List.countP_cons] at h1
    rw [List.countP_append, h0]
    omega
  · rw [hSa, hSj hja]
    rcases h.tm j hj hja with ⟨y, hy, hyy⟩ | h2
    · rcases List.mem_cons.1 hy with rfl | hy
      · rcases hyy with hyy | hyy
        · have := hyy.1; have := hb.1; omega
        · exact .inr (by rw [← hyy.2.2.1]; exact hmt)
      · exact .inl ⟨y, inl hy, hyy⟩
    · exact .inr (Int.le_trans h2 ht)
  · rw [hSa]
    by_cases hja : j = a
    · subst hja; rw [hSa]; exact UpTo.refl _
    · rw [hSj hja]; exact hup j hj hja
  · rw [hSa]
    refine ⟨(hfs hf).1, fun j hj => ?_⟩
    by_cases hja : j = a
    · subst hja; rw [hSa]; exact (hfs hf).2
    · rw [hSj hja]; exact (h.fs hf).2 j hj
/-- Nothing that is known of others has turned. -/
theorem Rn.conv0 {m : Mg} {r : List Mg} (h : Rn n a T fr S (m :: r)) (hr : (S a).role = 2) {j : Nat} (hj : j < n) (hja : j ≠ a) (hm : ¬ ((m.kind = 3 ∧ m.to = j) ∨ (m.kind = 4 ∧ m.frm = j))) : Conv T (S a) r j := by
  obtain ⟨v1, v2, v3⟩ := h.ld hr j hj hja
  refine ⟨fun y hy => v1 y (List.mem_cons_of_mem _ hy), fun y hy => v2 y (List.mem_cons_of_mem _ hy), ?_⟩
  rcases v3 with ⟨y, hy, hyy⟩ | h2
  · rcases List.mem_cons.1 hy with rfl | hy
    · exact absurd hyy hm
    · exact .inl ⟨y, hy, hyy⟩
  · exact .inr h2
theorem Rn.c30 {m : Mg} {r : List Mg} (h : Rn n a T fr S (m :: r)) {j : Nat} (hj : j < n) (hja : j ≠ a) : (r ++ []).countP (con34 j) ≤ 1 := by
  have h1 := h.c3 j hj hja
  rw [List.countP_cons] at h1
  rw [List.append_nil]
  omega
end
end
section
section
variable {n : Nat} {S : Nat → Sv} {M : Mg → Prop} {G : Gh} {a : Nat} {T : Int} {fr : Prop}
theorem wt_same {A B : Sv} {x : Mg} (h : ∀ j : Nat, (x.kind = 3 ∧ x.to.toNat = j) ∨ (x.kind ≠ 1 ∧ x.kind ≠ 2 ∧ x.kind ≠ 3 ∧ x.frm.toNat = j) → Qk A j ≤ Qk B j) : wt A x ≤ wt B x := by
  unfold wt
  split
  · exact Nat.le_refl _
  · split
    · exact Nat.le_refl _
    · split
      · rename_i h3
        have := h _ (.inl ⟨h3, rfl⟩)
        omega
      · have := h _ (.inr ⟨by assumption, by assumption, by assumption, rfl⟩)
        omega
theorem wts_same {A B : Sv} (h : ∀ j, Qk A j ≤ Qk B j) (r : List Mg) : wts A r ≤ wts B r := wts_le (fun x _ => wt_same (fun j _ => h j))
theorem quiet_phi {A A' : Sv} {m : Mg} {r : List Mg} (h : ∀ j, Qk A' j ≤ Qk A j) (hv : Rv A' ≤ Rv A) : Phi A' (r ++ []) < Phi A (m :: r) := by
  have h1 := wts_same h r
  have h2 := wt_pos A m
  unfold Phi
  rw [List.append_nil, wts]
  omega
/-- An answer of a greater Term. -/
theorem Rn.low {m : Mg} {r : List Mg} (h : Rn n a T fr S (m :: r)) (ha : a < n) {k : Nat} (hk : k < n) (hka : k ≠ a) (hb : Bak a T k (S k) m) (hlt : (S a).term < m.term) :
    Rn n a T fr (upd S a ((S a).low m.term)) (r ++ []) ∧ Phi ((S a).low m.term) (r ++ []) < Phi (S a) (m :: r) ∧ ¬ fr := by
  have hnf : ¬ fr := fun hf => by
    have h1 := (h.fs hf).2 k hk
    have h2 := hb.2.2.1
    have h3 := h.tl
    omega
  have f1 : ∀ {X : Prop}, (0 : Nat) = 1 → X := fun e => absurd e (by decide)
  have f2 : ∀ {X : Prop}, (0 : Nat) = 2 → X := fun e => absurd e (by decide)
  refine ⟨h.bak ha hka hb (fun j hj _ => h.up j hj) (fun x hx h3 => h.ap x (List.mem_cons_of_mem _ (by rw [List.append_nil] at hx; exact hx)) h3) (show (S a).term ≤ m.term by omega) (Int.le_refl _) (fun e => absurd rfl e) (fun o ho => by cases ho)
    (fun j hj hja => h.c30 hj hja) (fun e => f2 e) (fun e => f1 e) (fun e => f1 e) (fun _ e => f1 e) (fun hf => absurd hf hnf), quiet_phi (fun j => ?_) ?_, hnf⟩
  · show (if (0 : Nat) = 2 then _ else 0) ≤ _; rw [if_neg (by decide)]; exact Nat.zero_le _
  · show (if (0 : Nat) = 1 then _ else 0) ≤ _; rw [if_neg (by decide)]; exact Nat.zero_le _
/-- An answer that is nothing. -/
theorem Rn.nix {m : Mg} {r : List Mg} (h : Rn n a T fr S (m :: r)) (ha : a < n) {k : Nat} (hka : k ≠ a) (hb : Bak a T k (S k) m) (hle : ¬ (S a).term < m.term) (h2 : (S a).role = 2 → m.kind ≠ 4)
    (h1 : fr → (S a).role = 1 → ¬ (m.kind = 2 ∧ m.ok = true)) : Rn n a T fr (upd S a (S a)) (r ++ []) ∧ Phi (S a) (r ++ []) < Phi (S a) (m :: r) := by
  have hmr : ∀ {x : Mg}, x ∈ r ++ [] → x ∈ m :: r := fun hx => List.mem_cons_of_mem _ (by rw [List.append_nil] at hx; exact hx)
  have hm13 : m.kind ≠ 1 ∧ m.kind ≠ 3 := by rcases hb.2.2.2.2 with e | e <;> omega
  refine ⟨h.bak ha hka hb (fun j hj _ => h.up j hj) (fun x hx h3 => h.ap x (hmr hx) h3) (Int.le_refl _) (by omega) h.tr (fun o ho => by cases ho)
    (fun j hj hja => h.c30 hj hja) (fun hr j hj hja => by
      rw [List.append_nil]
      exact h.conv0 hr hj hja (fun e => by
        rcases e with ⟨e, _⟩ | ⟨e, _⟩
        · exact hm13.2 e
        · exact h2 hr e)) (fun hr => ?_) h.cv (fun hf hr j hj hja => ?_) (fun hf => ⟨(h.fs hf).1, (h.fs hf).2 a ha⟩), quiet_phi (fun j => Nat.le_refl _) (Nat.le_refl _)⟩
  · obtain ⟨v1, v2, v3⟩ := h.cd hr
    exact ⟨fun x hx => v1 x (hmr hx), v2, fun x hx => v3 x (hmr hx)⟩
  · rw [List.append_nil]
    rcases h.cf hf hr j hj hja with ⟨y, hy, e⟩ | ⟨y, hy, e⟩ | e
    · rcases List.mem_cons.1 hy with rfl | hy
      · exact absurd e.1 hm13.1
      · exact .inl ⟨y, hy, e⟩
    · rcases List.mem_cons.1 hy with rfl | hy
      · exact absurd ⟨e.1, e.2.2⟩ (h1 hf hr)
      · exact .inr (.inl ⟨y, hy, e⟩)
    · exact .inr (.inr e)
/-- A vote that is not the last one that is wanted. -/
theorem Rn.vote {m : Mg} {r : List Mg} (h : Rn n a T fr S (m :: r)) (ha : a < n) {k : Nat} (hka : k ≠ a) (hb : Bak a T k (S k) m) (hle : ¬ (S a).term < m.term) (hk2 : m.kind = 2) (hr : (S a).role = 1)
    (hq : 2 * ones ((S a).vote1 k).voters 7 ≤ n) : Rn n a T fr (upd S a ((S a).vote1 k)) (r ++ []) ∧ Phi ((S a).vote1 k) (r ++ []) < Phi (S a) (m :: r) := by
  have hmr : ∀ {x : Mg}, x ∈ r ++ [] → x ∈ m :: r := fun hx => List.mem_cons_of_mem _ (by rw [List.append_nil] at hx; exact hx)
  have hr2 : ((S a).vote1 k).role ≠ 2 := by show (S a).role ≠ 2; omega
  refine ⟨h.bak ha hka hb (fun j hj _ => h.up j hj) (fun x hx h3 => h.ap x (hmr hx) h3) (Int.le_refl _) (show m.term ≤ (S a).term by omega) h.tr (fun o ho => by cases ho)
    (fun j hj hja => h.c30 hj hja) (fun e => absurd e hr2) (fun _ => ?_) (fun _ => by show ((S a).voters ||| 2 ^ k).testBit a = true; rw [Nat.testBit_or, h.cv hr]; rfl) (fun hf _ j hj hja => ?_) (fun hf => ⟨(h.fs hf).1, (h.fs hf).2 a ha⟩), quiet_phi (fun j => Nat.le_refl _) (Nat.le_refl _)⟩
  · obtain ⟨v1, v2, v3⟩ := h.cd hr
    exact ⟨fun x hx => v1 x (hmr hx), hq, fun x hx => v3 x (hmr hx)⟩
  · rw [List.append_nil]
    show _ ∨ _ ∨ ((S a).voters ||| 2 ^ k).testBit j = true
    rw [Nat.testBit_or, Bool.or_eq_true]
    rcases h.cf hf hr j hj hja with ⟨y, hy, e⟩ | ⟨y, hy, e⟩ | e
    · rcases List.mem_cons.1 hy with rfl | hy
      · omega
      · exact .inl ⟨y, hy, e⟩
    · rcases List.mem_cons.1 hy with rfl | hy
      · have : j = k := by have := hb.1; omega
        subst this
        exact .inr (.inr (.inr Nat.testBit_two_pow_self))
      · exact .inr (.inl ⟨y, hy, e⟩)
    · exact .inr (.inr (.inl e))
theorem outs_get {A : Sv} {x : Mg} (h : x ∈ A.outs) : ∃ i, i < A.n ∧ i ≠ A.id ∧ x = A.send i := by
  unfold Sv.outs at h
  obtain ⟨i, hi, rfl⟩ := List.mem_map.1 h
  exact ⟨i, (ks_mem hi).1, (ks_mem hi).2, rfl⟩
theorem outs_has {A : Sv} {i : Nat} (h : i < A.n) (hi : i ≠ A.id) : A.send i ∈ A.outs := by
  unfold Sv.outs Sv.ks
  exact List.mem_map_of_mem (List.mem_filter.2 ⟨List.mem_range.2 h, by simp [hi]⟩)
theorem outs_le {A : Sv} (h : A.n ≤ 7) : A.outs.length ≤ 7 := by
  unfold Sv.outs Sv.ks
  rw [List.length_map]
  exact Nat.le_trans (List.length_filter_le _ _) (by rw [List.length_range]; exact h)
theorem lead_facts {A : Sv} (hl : A.log.length < 4096) : A.lead.log = A.log ++ [⟨A.term, ⟨#[]⟩⟩] ∧ A.lead.voters = A.voters := by
  unfold Sv.lead Sv.agree Sv.lead2
  rw [if_pos hl]
  exact ⟨rfl, rfl⟩
/-- All appends of a leader. -/
theorem outs_conv {A : Sv} (hg : A.Good) (hr : A.role = 2) (hid : A.id = a) (hn : A.n = n) (ht : A.term = T) {r : List Mg} (hr12 : ∀ x ∈ r, x.kind = 1 ∨ x.kind = 2) {j : Nat} (hj : j < n) (hja : j ≠ a) : Conv T A (r ++ A.outs) j := by
  refine ⟨fun y hy h3 hto => ?_, fun y hy h4 => ?_, .inl ⟨A.send j, List.mem_append_right _ (outs_has (by omega) (by omega)), .inl ⟨rfl, rfl⟩⟩⟩
  · rcases List.mem_append.1 hy with hy | hy
    · have := hr12 y hy; omega
    · obtain ⟨i, hi, hia, rfl⟩ := outs_get hy
      have e : i = j := by have : ((i : Nat) : Int) = (j : Int) := hto
                           omega
      subst e
      have h1 := hg.nx1 hr i hi
      have h2 := hg.nxm hr i hi
      exact ⟨by show ((A.nx.getD i 0 - 1 : Nat) : Int) + 1 = _; omega, (send_app (by omega)).2⟩
  · rcases List.mem_append.1 hy with hy | hy
    · have := hr12 y hy; omega
    · obtain ⟨i, hi, hia, rfl⟩ := outs_get hy
      exact absurd (show (3 : Nat) = 4 from h4) (by decide)
theorem outs_out {A : Sv} (hg : A.Good) (hr : A.role = 2) (hid : A.id = a) (hn : A.n = n) (ht : A.term = T) : ∀ o ∈ A.outs, Hrd n o ∧ o.kind = 3 ∧ ∃ j, j < n ∧ j ≠ a ∧ Out a T j o := fun o ho => by
  obtain ⟨i, hi, hia, rfl⟩ := outs_get ho
  have := send_hrd hg hr hi hia
  rw [hn] at this
  exact ⟨this, rfl, i, by omega, by omega, by show (A.id : Int) = a; rw [hid], rfl, ht, .inr rfl⟩
theorem outs_app {A : Sv} (hg : A.Good) (hr : A.role = 2) : ∀ o ∈ A.outs, App A.log o := fun o ho => by
  obtain ⟨i, hi, hia, rfl⟩ := outs_get ho
  have := hg.nxm hr i hi
  exact (send_app (by omega)).1
/-- The last vote that is wanted. -/
theorem Rn.elect {m : Mg} {r : List Mg} (h : Rn n a T fr S (m :: r)) (hI : Inv n S M G) (ha : a < n) {k : Nat} (hk : k < n) (hka : k ≠ a) (hb : Bak a T k (S k) m) (hle : ¬ (S a).term < m.term) (hk2 : m.kind = 2) (hr : (S a).role = 1)
    (hlen : (S a).log.length < 4096) (hgl : ((S a).vote1 k).lead.Good) :
    Rn n a T fr (upd S a ((S a).vote1 k).lead) (r ++ ((S a).vote1 k).lead.outs) ∧ Phi ((S a).vote1 k).lead (r ++ ((S a).vote1 k).lead.outs) < Phi (S a) (m :: r) ∧ ((S a).vote1 k).lead.role = 2 := by
  obtain ⟨g1, g2, g3⟩ := hI.good a ha
  have e1 : ((S a).vote1 k).lead.role = 2 := ld_role' _
  obtain ⟨e2, e3, e4, e5, e6, e7⟩ := lead_own ((S a).vote1 k)
  obtain ⟨e8, e9⟩ := lead_facts (A := (S a).vote1 k) hlen
  have e3 : ((S a).vote1 k).lead.term = (S a).term := e3
  have e4 : ((S a).vote1 k).lead.id = a := e4.trans g2
  have e5 : ((S a).vote1 k).lead.n = n := e5.trans g3
  have e8 : ((S a).vote1 k).lead.log = (S a).log ++ [⟨(S a).term, ⟨#[]⟩⟩] := e8
  have e6 : ∀ j, j < n → ((S a).vote1 k).lead.nx.getD j 0 = (S a).log.length + 1 := fun j hj => by
    rw [e6]
    exact setTo_zero _ _ _ (by show j < (S a).n; omega) (by show j < (S a).nx.length; rw [g1.nxl]; have := g1.n; omega)
  have e7 : ∀ j, j < n → ((S a).vote1 k).lead.mt.getD j 0 = 0 := fun j hj => by
    rw [e7]
    exact setTo_zero _ _ _ (by show j < (S a).n; omega) (by show j < (S a).mt.length; rw [g1.mtl]; have := g1.n; omega)
  have hta := h.tr (by omega)
  obtain ⟨v1, v2, v3⟩ := h.cd hr
  have hr12 : ∀ x ∈ r, x.kind = 1 ∨ x.kind = 2 := fun x hx => v1 x (List.mem_cons_of_mem _ hx)
  have hvc := hI.vc (S a).term a (hI.cand a ha hr).1
  rw [(hI.cand a ha hr).2.1] at hvc
  generalize ((S a).vote1 k).lead = B at *
  have hll : B.log.length = (S a).log.length + 1 := by rw [e8, List.length_append]; rfl
  refine ⟨h.bak ha hka hb (fun j hj hja => ?_) (fun x hx h3 => ?_) (by omega) (by omega) (fun _ => by omega) (outs_out hgl e1 e4 e5 (by omega)) (fun j hj hja => ?_) (fun _ j hj hja => outs_conv hgl e1 e4 e5 (by omega) hr12 hj hja) (fun e => by omega) (fun e => by omega) (fun _ e => by omega) (fun _ => ⟨by omega, by omega⟩), ?_, e1⟩
  · have h1 := h.up j hj
    have h2 := hvc (S a).log.length
    have h3 : termAt B.log B.log.length = (S a).term := by
      rw [hll, e8, termAt_append (by omega), Nat.add_sub_cancel_left]
      rfl
    refine .inl ?_
    rw [h3]
    rcases h1 with h1 | ⟨h1, _⟩
    · omega
    · omega
  · rcases List.mem_append.1 hx with hx | hx
    · have := hr12 x hx; omega
    · exact outs_app hgl e1 x hx
  · have h0 : r.countP (con34 j) = 0 := List.countP_eq_zero.2 (fun x hx => by
      have := hr12 x hx
      unfold con34
      simp
      omega)
    rw [List.countP_append, h0]
    have := outs_count B j
    omega
  · have hw : wts B r ≤ wts (S a) r := wts_le (fun x hx => by
      have := hr12 x hx
      unfold wt
      rcases this with e | e
      · rw [if_pos e, if_pos e]; exact Nat.le_refl _
      · rw [if_neg (by omega), if_pos e, if_neg (by omega), if_pos e]; exact Nat.le_refl _)
    have ho : wts B B.outs ≤ B.outs.length * (2 + 2 * (S a).log.length + 2 * (((S a).log.length + 16) / 16)) := wts_const (fun x hx => by
      obtain ⟨i, hi, hia, rfl⟩ := outs_get hx
      have e : wt B (B.send i) = 2 + Qk B i := by
        unfold wt
        rw [if_neg (show ¬ (B.send i).kind = 1 from (by decide : ¬ (3 : Nat) = 1)), if_neg (show ¬ (B.send i).kind = 2 from (by decide : ¬ (3 : Nat) = 2)), if_pos (show (B.send i).kind = 3 from rfl)]
        show 2 + Qk B ((i : Int)).toNat = _
        rw [Int.toNat_natCast]
      rw [e]
      unfold Qk
      rw [if_pos e1, e6 i (by omega), e7 i (by omega), hll]
      omega)
    have hol := outs_le (A := B) (by have := g1.n; omega)
    have hm := Nat.mul_le_mul_right (2 + 2 * (S a).log.length + 2 * (((S a).log.length + 16) / 16)) hol
    have hwm : wt (S a) m = 1 := by unfold wt; rw [if_neg (by omega), if_pos hk2]
    unfold Phi Rv
    rw [if_neg (by omega), if_pos hr, wts_append, wts, hwm]
    omega
end
end
section
/-- As many as are wanted have all, or nothing more is known. -/
def Agreed (n : Nat) (A : Sv) : Prop := A.commit = A.log.length ∨ 2 * A.have_ A.log.length n ≤ n
def Topped (A : Sv) : Prop := 0 < A.log.length ∧ termAt A.log A.log.length = A.term
theorem agree_agreed {n : Nat} {A : Sv} (hn : A.n = n) (hc : A.commit ≤ A.log.length) (ht : Topped A) : Agreed n A.agree := by
  obtain ⟨h0, h1⟩ := ht
  unfold Agreed
  have e : ∀ j, A.agree.have_ A.agree.log.length j = A.have_ A.log.length j := fun j => by
    induction j with
    | zero => rfl
    | succ j ih => rw [Sv.have_, Sv.have_, ih]; rfl
  rw [e]
  show A.agr A.log.length = A.log.length ∨ _
  obtain ⟨l, hl⟩ : ∃ l, A.log.length = l + 1 := ⟨A.log.length - 1, by omega⟩
  rw [hl] at h1 ⊢
  rw [Sv.agr]
  by_cases h2 : A.commit < l + 1
  · rw [if_pos ⟨h2, h1⟩]
    by_cases h3 : A.n < 2 * A.have_ (l + 1) A.n
    · rw [if_pos h3]; exact .inl rfl
    · rw [hn] at h3; exact .inr (by omega)
  · rw [if_neg (fun h => h2 h.1)]
    exact .inl (by omega)
theorem agree_full {A : Sv} (h : A.commit = A.log.length) : A.agree.commit = A.log.length := by
  show A.agr A.log.length = _
  obtain ⟨l, hl⟩ : ∃ l, A.log.length = l := ⟨_, rfl⟩
  rw [hl] at h ⊢
  cases l with
  | zero => rw [Sv.agr]; exact h
  | succ l => rw [Sv.agr, if_neg (by omega)]; exact h
section
variable {n : Nat} {S : Nat → Sv} {M : Mg → Prop} {G : Gh} {a : Nat} {T : Int} {fr : Prop}
theorem conv_other {A A' : Sv} {r out : List Mg} {j : Nat} (h : Conv T A r j) (e1 : A'.log = A.log) (e2 : A'.nx.getD j 0 = A.nx.getD j 0) (e3 : A'.mt.getD j 0 = A.mt.getD j 0) (ho : ∀ o ∈ out, o.kind = 3 ∧ o.to ≠ j) : Conv T A' (r ++ out) j := by
  obtain ⟨v1, v2, v3⟩ := h
  rw [← e1, ← e2] at v1
  rw [← e1, ← e2, ← e3] at v2
  rw [← e1, ← e3] at v3
  refine ⟨fun y hy h3 ht => ?_, fun y hy h4 => ?_, v3.imp (fun ⟨y, hy, hyy⟩ => ⟨y, List.mem_append_left _ hy, hyy⟩) id⟩
  · rcases List.mem_append.1 hy with hy | hy
    · exact v1 y hy h3 ht
    · exact absurd ht (ho y hy).2
  · rcases List.mem_append.1 hy with hy | hy
    · exact v2 y hy h4
    · have := (ho y hy).1; omega
theorem conv_send {A : Sv} {r : List Mg} {k : Nat} (hr : ∀ x ∈ r, con34 k x = false) (h1 : 1 ≤ A.nx.getD k 0) (h2 : A.nx.getD k 0 ≤ A.log.length + 1) : Conv T A (r ++ [A.send k]) k := by
  refine ⟨fun y hy h3 ht => ?_, fun y hy h4 hf => ?_, .inl ⟨A.send k, List.mem_append_right _ (List.mem_singleton.2 rfl), .inl ⟨rfl, rfl⟩⟩⟩
  · rcases List.mem_append.1 hy with hy | hy
    · exact absurd (.inl ⟨h3, ht⟩) (of_decide_eq_false (hr y hy))
    · rw [List.mem_singleton] at hy
      subst hy
      exact ⟨by show ((A.nx.getD k 0 - 1 : Nat) : Int) + 1 = _; omega, (send_app (by omega)).2⟩
  · rcases List.mem_append.1 hy with hy | hy
    · exact absurd (.inr ⟨h4, hf⟩) (of_decide_eq_false (hr y hy))
    · rw [List.mem_singleton] at hy
      subst hy
      exact absurd (show (3 : Nat) = 4 from h4) (by decide)
theorem conv_end {A : Sv} {r : List Mg} {k : Nat} (hr : ∀ x ∈ r, con34 k x = false) (h : A.mt.getD k 0 = A.log.length) : Conv T A r k :=
  ⟨fun y hy h3 ht => absurd (.inl ⟨h3, ht⟩) (of_decide_eq_false (hr y hy)), fun y hy h4 hf => absurd (.inr ⟨h4, hf⟩) (of_decide_eq_false (hr y hy)), .inr h⟩
theorem Rn.conv1 {m : Mg} {r : List Mg} (h : Rn n a T fr S (m :: r)) (ha : a < n) {k : Nat} (hk : k < n) (hka : k ≠ a) (hb : Bak a T k (S k) m) (hle : ¬ (S a).term < m.term) (hk4 : m.kind = 4) (hr : (S a).role = 2)
    {A' : Sv} {out : List Mg} (e1 : A'.role = 2) (e2 : A'.term = (S a).term) (e3 : A'.log = (S a).log) (e4 : A'.id = a) (e5 : A'.n = n) (hg' : A'.Good) (e6 : ∀ j, j ≠ k → A'.nx.getD j 0 = (S a).nx.getD j 0) (e7 : ∀ j, j ≠ k → A'.mt.getD j 0 = (S a).mt.getD j 0)
    (ho : (out = [] ∧ A'.mt.getD k 0 = (S a).log.length) ∨ (out = [A'.send k] ∧ Qk A' k + 2 ≤ Qk (S a) k)) : Rn n a T fr (upd S a A') (r ++ out) ∧ Phi A' (r ++ out) < Phi (S a) (m :: r) := by
  have hmr : ∀ {x : Mg}, x ∈ r → x ∈ m :: r := fun hx => List.mem_cons_of_mem _ hx
  have hcon : con34 k m = true := decide_eq_true (.inr ⟨hk4, hb.1⟩)
  have hno := con_none (h.c3 k hk hka) hcon
  have hta := h.tr (by omega)
  have hos : ∀ o ∈ out, o = A'.send k := fun o hoo => by
    rcases ho with ⟨e, _⟩ | ⟨e, _⟩
    · rw [e] at hoo; cases hoo
    · rw [e, List.mem_singleton] at hoo; exact hoo
  have hsk := send_hrd hg' e1 (k := k) (by omega) (by omega)
  rw [e5] at hsk
  have hnx1 := hg'.nx1 e1 k (by omega)
  have hnxm := hg'.nxm e1 k (by omega)
  have hQ : ∀ x ∈ r, wt A' x ≤ wt (S a) x := fun x hx => wt_same (fun j hj => by
    have hjk : j ≠ k := fun e => by
      subst e
      obtain ⟨i, hi, hia, hii⟩ := h.kd x (hmr hx)
      have hcx := of_decide_eq_false (hno x hx)
      rcases hj with ⟨h3, h4⟩ | ⟨h1, h2, h3, h4⟩
      · rcases hii with hii | hii
        · have := hii.2.1; exact hcx (.inl ⟨h3, by omega⟩)
        · have := hii.2.2.2.2; omega
      · rcases hii with hii | hii
        · have := hii.2.2.2; omega
        · have h5 := hii.2.2.2.2; have h6 := hii.1; exact hcx (.inr ⟨by omega, by omega⟩)
    unfold Qk
    rw [if_pos e1, if_pos hr, e3, e6 j hjk, e7 j hjk]
    exact Nat.le_refl _)
  refine ⟨h.bak ha hka hb (fun j hj _ => by rw [e3]; exact h.up j hj) (fun x hx h3 => ?_) (by omega) (by omega) (fun _ => by omega) (fun o hoo => ?_) (fun j hj hja => ?_) (fun _ j hj hja => ?_) (fun e => by omega) (fun e => by omega) (fun _ e => by omega) (fun hf => ⟨by omega, by omega⟩), ?_⟩
  · rw [e3]
    rcases List.mem_append.1 hx with hx | hx
    · exact h.ap x (hmr hx) h3
    · rw [hos x hx, ← e3]
      exact (send_app (by omega)).1
  · rw [hos o hoo]
    exact ⟨hsk, rfl, k, hk, hka, by show (A'.id : Int) = a; rw [e4], rfl, by show A'.term = T; omega, .inr rfl⟩
  · by_cases hjk : j = k
    · subst hjk
      have h0 : r.countP (con34 j) = 0 := List.countP_eq_zero.2 (fun x hx => by rw [hno x hx]; decide)
      rw [List.countP_append, h0]
      rcases ho with ⟨e, _⟩ | ⟨e, _⟩
      · rw [e]; simp
      · rw [e, List.countP_cons, List.countP_nil]; split <;> omega
    · have h0 : out.countP (con34 j) = 0 := List.countP_eq_zero.2 (fun x hx => by
        rw [hos x hx]
        have : con34 j (A'.send k) = false := decide_eq_false (fun hc => by
          rcases hc with ⟨_, e⟩ | ⟨e, _⟩
          · have : (k : Int) = (j : Int) := e
            omega
          · exact absurd (show (3 : Nat) = 4 from e) (by decide))
        rw [this]; decide)
      have h1 := h.c3 j hj hja
      rw [List.countP_cons] at h1
      rw [List.countP_append, h0]
      omega
  · by_cases hjk : j = k
    · subst hjk
      rcases ho with ⟨e, e'⟩ | ⟨e, _⟩
      · rw [e, List.append_nil]; exact conv_end hno (by rw [e3]; exact e')
      · rw [e]; exact conv_send hno hnx1 hnxm
    · refine conv_other (h.conv0 hr hj hja (fun e => ?_)) e3 (e6 j hjk) (e7 j hjk) (fun o hoo => ?_)
      · rcases e with ⟨e, _⟩ | ⟨_, e⟩
        · omega
        · have := hb.1; omega
      · rw [hos o hoo]
        exact ⟨rfl, fun e => hjk (by have : (k : Int) = (j : Int) := e; omega)⟩
  · have h1 := wts_le hQ
    have hwm : wt (S a) m = 1 + Qk (S a) k := by
      unfold wt
      rw [if_neg (by omega), if_neg (by omega), if_neg (by omega), hb.1, Int.toNat_natCast]
    unfold Phi Rv
    rw [if_neg (by omega), if_neg (by omega), wts_append, wts, hwm]
    rcases ho with ⟨e, _⟩ | ⟨e, e'⟩
    · rw [e, wts]; omega
    · rw [e, wts, wts]
      have hws : wt A' (A'.send k) = 2 + Qk A' k := by
        unfold wt
        rw [if_neg (show ¬ (A'.send k).kind = 1 from (by decide : ¬ (3 : Nat) = 1)), if_neg (show ¬ (A'.send k).kind = 2 from (by decide : ¬ (3 : Nat) = 2)), if_pos (show (A'.send k).kind = 3 from rfl)]
        show 2 + Qk A' ((k : Int)).toNat = _
        rw [Int.toNat_natCast]
      rw [hws]
      omega
theorem have_set {A B : Sv} (h1 : A.id = B.id) (h2 : A.mt = B.mt) (m : Nat) : ∀ j, A.have_ m j = B.have_ m j
  | 0 => rfl
  | j + 1 => by rw [Sv.have_, Sv.have_, have_set h1 h2 m j, h1, h2]
/-- A leader is told what became of an append. -/
theorem Rn.told {m : Mg} {r : List Mg} (h : Rn n a T fr S (m :: r)) (hI : Inv n S M G) (hO : (S a).Own) (ha : a < n) {k : Nat} (hk : k < n) (hka : k ≠ a) (hb : Bak a T k (S k) m) (hle : ¬ (S a).term < m.term) (hk4 : m.kind = 4) (hr : (S a).role = 2)
    (hgt : ((S a).told m).1.Good) :
    Rn n a T fr (upd S a ((S a).told m).1) (r ++ ((S a).told m).2) ∧ Phi ((S a).told m).1 (r ++ ((S a).told m).2) < Phi (S a) (m :: r) ∧ ((S a).told m).1.role = 2 ∧ ((S a).told m).1.log = (S a).log ∧
      (Topped (S a) → Agreed n (S a) → Agreed n ((S a).told m).1) ∧ ((S a).commit = (S a).log.length → ((S a).told m).1.commit = (S a).log.length) := by
  obtain ⟨g1, g2, g3⟩ := hI.good a ha
  have hta := h.tr (by omega)
  have hmt : m.term = T := by have := hb.2.2.2.1; omega
  obtain ⟨w1, w2⟩ := (h.ld hr k hk hka).2.1 m List.mem_cons_self hk4 hb.1 hmt
  obtain ⟨o1, o2⟩ := hO hr
  have o2 := o2 k (by omega)
  have hnx1 := g1.nx1 hr k (by omega)
  have hnxm := g1.nxm hr k (by omega)
  have hmtm := g1.mtm hr k (by omega)
  have hk7 : k < 7 := by have := g1.n; omega
  have hfk : m.frm.toNat = k := by rw [hb.1, Int.toNat_natCast]
  have hnl := g1.nxl
  have hml := g1.mtl
  unfold Sv.told at hgt ⊢
  rw [if_neg (by
    rintro (e | e | ⟨e, e'⟩)
    · exact e hr
    · exact e (by omega)
    · have := w1 e; omega)] at hgt ⊢
  rw [hfk] at hgt ⊢
  by_cases hok : m.ok = false
  · obtain ⟨x1, x2, x3⟩ := w2 hok
    rw [if_pos hok] at hgt ⊢
    have hgb : ((S a).back k m.index.toNat).Good := hgt
    have enx : ∀ j, ((S a).back k m.index.toNat).nx.getD j 0 = if j = k then max ((S a).mt.getD k 0 + 1) (min ((S a).nx.getD k 0) (m.index.toNat + 1)) else (S a).nx.getD j 0 := fun j => by
      show (List.set _ _ _).getD j 0 = _
      rw [getD_set _ _ _ _ (by omega)]
    have hc := h.conv1 ha hk hka hb hle hk4 hr (A' := (S a).back k m.index.toNat) (out := [((S a).back k m.index.toNat).send k]) hr rfl rfl g2 g3 hgb (fun j hj => by rw [enx, if_neg hj]) (fun j _ => rfl) (.inr ⟨rfl, by
      unfold Qk
      rw [if_pos (show ((S a).back k m.index.toNat).role = 2 from hr), if_pos hr, enx, if_pos rfl]
      show 2 * (max ((S a).mt.getD k 0 + 1) (min ((S a).nx.getD k 0) (m.index.toNat + 1)) - (S a).mt.getD k 0 - 1) + 2 * (((S a).log.length - (S a).mt.getD k 0 + 15) / 16) + 2 ≤ _
      omega⟩)
    refine ⟨hc.1, hc.2, hr, rfl, fun _ hag => ?_, fun hc => hc⟩
    rcases hag with e | e
    · exact .inl e
    · exact .inr (by
        show 2 * ((S a).back k m.index.toNat).have_ (S a).log.length n ≤ n
        rw [have_set (A := (S a).back k m.index.toNat) (B := S a) rfl rfl]
        exact e)
  · have hok : m.ok = true := by simpa using hok
    have x1 := w1 hok
    rw [if_neg (by simp [hok])] at hgt ⊢
    have emt : ∀ j, ((S a).has k m.index.toNat).agree.mt.getD j 0 = if j = k then max ((S a).mt.getD k 0) m.index.toNat else (S a).mt.getD j 0 := fun j => by
      show (List.set _ _ _).getD j 0 = _
      rw [getD_set _ _ _ _ (by omega)]
    have enx : ∀ j, ((S a).has k m.index.toNat).agree.nx.getD j 0 = if j = k then max ((S a).mt.getD k 0) m.index.toNat + 1 else (S a).nx.getD j 0 := fun j => by
      show (List.set _ _ _).getD j 0 = _
      rw [getD_set _ _ _ _ (by omega)]
    have hagr : Topped (S a) → Agreed n (S a) → Agreed n ((S a).has k m.index.toNat).agree := fun ht _ => agree_agreed (A := (S a).has k m.index.toNat) g3 g1.com ht
    have hfull : (S a).commit = (S a).log.length → ((S a).has k m.index.toNat).agree.commit = (S a).log.length := fun hc => agree_full (A := (S a).has k m.index.toNat) hc
    by_cases hend : (S a).log.length < max ((S a).mt.getD k 0) m.index.toNat + 1
    · rw [if_pos hend] at hgt ⊢
      have hc := h.conv1 ha hk hka hb hle hk4 hr (A' := ((S a).has k m.index.toNat).agree) (out := []) hr rfl rfl g2 g3 hgt (fun j hj => by rw [enx, if_neg hj]) (fun j hj => by rw [emt, if_neg hj]) (.inl ⟨rfl, by rw [emt, if_pos rfl]; omega⟩)
      exact ⟨hc.1, hc.2, hr, rfl, hagr, hfull⟩
    · rw [if_neg hend] at hgt ⊢
      have hc := h.conv1 ha hk hka hb hle hk4 hr (A' := ((S a).has k m.index.toNat).agree) (out := [((S a).has k m.index.toNat).agree.send k]) hr rfl rfl g2 g3 hgt (fun j hj => by rw [enx, if_neg hj]) (fun j hj => by rw [emt, if_neg hj]) (.inr ⟨rfl, by
        unfold Qk
        rw [if_pos (show ((S a).has k m.index.toNat).agree.role = 2 from hr), if_pos hr, enx, emt, if_pos rfl, if_pos rfl]
        show 2 * (max ((S a).mt.getD k 0) m.index.toNat + 1 - max ((S a).mt.getD k 0) m.index.toNat - 1) + 2 * (((S a).log.length - max ((S a).mt.getD k 0) m.index.toNat + 15) / 16) + 2 ≤ _
        omega⟩)
      exact ⟨hc.1, hc.2, hr, rfl, hagr, hfull⟩
end
end
section
section
variable {n : Nat} {S : Nat → Sv} {M : Mg → Prop} {G : Gh} {a : Nat} {T : Int} {fr : Prop}
theorem wt_pair (A : Sv) {m o : Mg} {k : Nat} (h : (m.kind = 1 ∧ o.kind = 2) ∨ (m.kind = 3 ∧ o.kind = 4)) (hm : m.to = k) (ho : o.frm = k) : wt A o < wt A m := by
  unfold wt
  rcases h with ⟨e, e'⟩ | ⟨e, e'⟩
  · rw [if_neg (by omega), if_pos e', if_pos e]; omega
  · rw [if_neg (by omega), if_neg (by omega), if_neg (by omega), if_neg (by omega), if_neg (by omega), if_pos e, hm, ho]; omega
theorem Rn.back {m : Mg} {r : List Mg} (h : Rn n a T fr S (m :: r)) (hI : Inv n S M G) (hO : (S a).Own) (ha : a < n) (hlen : (S a).log.length < 4096) {k : Nat} (hk : k < n) (hka : k ≠ a) (hb : Bak a T k (S k) m) :
    Rn n a T fr (upd S a ((S a).handle m).1) (r ++ ((S a).handle m).2) ∧ Phi ((S a).handle m).1 (r ++ ((S a).handle m).2) < Phi (S a) (m :: r) := by
  obtain ⟨g1, g2, g3⟩ := hI.good a ha
  have hh := h.hs m List.mem_cons_self (S a) (by rw [hb.2.1, g2]) g3
  have hgh := g1.handle (m := m)
  have hfk : m.frm.toNat = k := by rw [hb.1, Int.toNat_natCast]
  by_cases hlt : (S a).term < m.term
  · rw [low_handle hh hb.2.2.2.2 hlt]
    have := h.low ha hk hka hb hlt
    exact ⟨this.1, this.2.1⟩
  · rcases hb.2.2.2.2 with hk2 | hk4
    · rw [vote_handle hh hk2 hlt] at hgh ⊢
      unfold Sv.voted at hgh ⊢
      by_cases hc : (S a).role ≠ 1 ∨ m.term ≠ (S a).term ∨ m.ok = false
      · rw [if_pos hc]
        refine h.nix ha hka hb hlt (fun _ => by omega) (fun hf hr => ?_)
        rintro ⟨_, e⟩
        have h1 := (h.fs hf).2 k hk
        have h2 := hb.2.2.1
        have h3 := hb.2.2.2.1
        have h4 := h.tr (by omega)
        rcases hc with hc | hc | hc
        · exact hc hr
        · exact hc (by omega)
        · rw [hc] at e; cases e
      · rw [if_neg hc] at hgh ⊢
        have hr : (S a).role = 1 := Decidable.not_not.1 (fun e => hc (.inl e))
        rw [hfk] at hgh ⊢
        by_cases hq : 2 * ones ((S a).vote1 k).voters 7 ≤ (S a).n
        · rw [if_pos hq]
          exact h.vote ha hka hb hlt hk2 hr (by omega)
        · rw [if_neg hq] at hgh ⊢
          have := h.elect hI ha hk hka hb hlt hk2 hr hlen hgh
          exact ⟨this.1, this.2.1⟩
    · rw [told_handle hh hk4 hlt] at hgh ⊢
      by_cases hr : (S a).role = 2
      · have := h.told hI hO ha hk hka hb hlt hk4 hr hgh
        exact ⟨this.1, this.2.1⟩
      · have e : (S a).told m = (S a, []) := by unfold Sv.told; rw [if_pos (.inl hr)]
        rw [e]
        refine h.nix ha hka hb hlt (fun e => absurd e hr) (fun hf hr1 => ?_)
        rintro ⟨e, _⟩
        omega
/-- One message comes. -/
theorem Rn.step {m : Mg} {r : List Mg} (h : Rn n a T fr S (m :: r)) (hI : Inv n S M G) (hM : M m) (hO : (S a).Own) (ha : a < n) (hlen : (S a).log.length < 4096) {i : Nat} (hi : m.to = i) :
    Rn n a T fr (upd S i ((S i).handle m).1) (r ++ ((S i).handle m).2) ∧ Phi (upd S i ((S i).handle m).1 a) (r ++ ((S i).handle m).2) < Phi (S a) (m :: r) := by
  obtain ⟨k, hk, hka, ho | hb⟩ := h.kd m List.mem_cons_self
  · have e : i = k := by have := ho.2.1; omega
    subst e
    obtain ⟨o, e1, e2, e3, e4, _⟩ := h.out hI hM ha hk hka ho
    rw [e1]
    refine ⟨e2, ?_⟩
    rw [upd_ne _ _ (fun e => hka e.symm)]
    have := wt_pair (S a) e3 ho.2.1 e4
    unfold Phi
    rw [wts_append, wts, wts, wts]
    omega
  · have e : i = a := by have := hb.2.1; omega
    subst e
    rw [upd_same]
    exact h.back hI hO ha hlen hk hka hb
/-- What holds besides once a leader has put an entry of its own. -/
structure Fn (n a : Nat) (c4 : Prop) (lg : List Ent) (S : Nat → Sv) (way : List Mg) : Prop where
  lg : (S a).log = lg
  r2 : (S a).role = 2
  tp : Topped (S a)
  ag : Agreed n (S a)
  wk : ∀ m ∈ way, m.kind = 3 ∨ m.kind = 4
  cm : c4 → (S a).commit = (S a).log.length ∧ (∀ k, k < n → k ≠ a → (S a).mt.getD k 0 = (S a).log.length) ∧ (∀ m ∈ way, m.kind = 3 → m.commit = (S a).log.length ∧ m.index + (m.ents.length : Int) = (S a).log.length) ∧
    ∀ k, k < n → k ≠ a → (∃ m ∈ way, m.kind = 3 ∧ m.to = k) ∨ ((S a).log.length ≤ (S k).commit ∧ (S k).leader = a)
theorem told_full {A : Sv} (hg : A.Good) {m : Mg} {k : Nat} (hk : k < 7) (hfk : m.frm.toNat = k) (hmt : A.mt.getD k 0 = A.log.length) (hok : m.ok = true) (hix : m.index ≤ A.log.length) (hr : A.role = 2) :
    (A.told m).2 = [] ∧ ∀ j, (A.told m).1.mt.getD j 0 = A.mt.getD j 0 := by
  unfold Sv.told
  by_cases hc : A.role ≠ 2 ∨ m.term ≠ A.term ∨ (m.ok = true ∧ (A.log.length : Int) < m.index)
  · rw [if_pos hc]; exact ⟨rfl, fun _ => rfl⟩
  · rw [if_neg hc, if_neg (by simp [hok]), hfk, if_pos (by omega)]
    refine ⟨rfl, fun j => ?_⟩
    show (List.set _ _ _).getD j 0 = _
    rw [getD_set _ _ _ _ (by rw [hg.mtl]; exact hk)]
    split
    · rename_i e; rw [e]; omega
    · rfl
theorem Fn.step {c4 : Prop} {lg : List Ent} {m : Mg} {r : List Mg} (hF : Fn n a c4 lg S (m :: r)) (h : Rn n a T True S (m :: r)) (hI : Inv n S M G) (hM : M m) (hO : (S a).Own) (ha : a < n) {i : Nat} (hi : m.to = i) (hcg : ∀ i, i < n → (S i).commit ≤ ((S i).handle m).1.commit) :
    Fn n a c4 lg (upd S i ((S i).handle m).1) (r ++ ((S i).handle m).2) := by
  have hta := h.tr (by rw [hF.r2]; decide)
  have hwm := hF.wk m List.mem_cons_self
  obtain ⟨g1, g2, g3⟩ := hI.good a ha
  have hmr : ∀ {x : Mg}, x ∈ r → x ∈ m :: r := fun hx => List.mem_cons_of_mem _ hx
  obtain ⟨k, hk, hka, ho | hb⟩ := h.kd m List.mem_cons_self
  · have e : i = k := by have := ho.2.1; omega
    subst e
    have hm3 : m.kind = 3 := by rcases hwm with e | e; exact e; have := ho.2.2.2; omega
    obtain ⟨o, e1, _, e3, e4, e5⟩ := h.out hI hM ha hk hka ho
    have hSa : ∀ x, upd S i x a = S a := fun x => upd_ne _ _ (fun e => hka e.symm)
    have ok4 : o.kind = 4 := by rcases e3 with e | e <;> omega
    rw [e1]
    refine ⟨by rw [hSa]; exact hF.lg, by rw [hSa]; exact hF.r2, by rw [hSa]; exact hF.tp, by rw [hSa]; exact hF.ag, fun x hx => ?_, fun hc => ?_⟩
    · rcases List.mem_append.1 hx with hx | hx
      · exact hF.wk x (hmr hx)
      · rw [List.mem_singleton] at hx; subst hx; exact .inr ok4
    · rw [hSa]
      obtain ⟨c1, c2, c3, c5⟩ := hF.cm hc
      refine ⟨c1, c2, fun x hx h3 => ?_, fun j hj hja => ?_⟩
      · rcases List.mem_append.1 hx with hx | hx
        · exact c3 x (hmr hx) h3
        · rw [List.mem_singleton] at hx; subst hx; omega
      · by_cases hji : j = i
        · subst hji
          rw [upd_same]
          have hm := c3 m List.mem_cons_self hm3
          rcases e5 hm3 ((h.fs trivial).2 j hj) with ⟨_, _, f1, f2⟩ | ⟨_, f1⟩
          · exact .inr ⟨by omega, f1⟩
          · exfalso
            apply f1
            obtain ⟨i, a1, a2, a3, a4⟩ := h.ap m List.mem_cons_self hm3
            have hkn := known hI ha hj hja hF.r2 (by rw [hta]; exact (h.fs trivial).2 j hj) (j := m.index.toNat) (by rw [c2 j hj hja]; omega)
            refine ⟨hkn.1, ?_⟩
            rw [hkn.2, a3, a1]
            rfl
        · rw [upd_ne _ _ hji]
          rcases c5 j hj hja with ⟨y, hy, hyy⟩ | hd
          · rcases List.mem_cons.1 hy with rfl | hy
            · omega
            · exact .inl ⟨y, List.mem_append_left _ hy, hyy⟩
          · exact .inr hd
  · have e : i = a := by have := hb.2.1; omega
    subst e
    have hm4 : m.kind = 4 := by rcases hwm with e | e; have := hb.2.2.2.2; omega; exact e
    have hle : ¬ (S i).term < m.term := by
      have h1 := (h.fs trivial).2 k hk
      have h2 := hb.2.2.1
      omega
    have hh := h.hs m List.mem_cons_self (S i) (by rw [hb.2.1, g2]) g3
    have hgh := g1.handle (m := m)
    rw [told_handle hh hm4 hle] at hgh ⊢
    obtain ⟨t1, _, t3, t4, t5, t6⟩ := h.told hI hO ha hk hka hb hle hm4 hF.r2 hgh
    have htm : ((S i).told m).1.term = (S i).term := by
      have := t1.tr (by rw [upd_same, t3]; decide)
      rw [upd_same] at this
      omega
    refine ⟨by rw [upd_same, t4]; exact hF.lg, by rw [upd_same]; exact t3, by rw [upd_same]; unfold Topped; rw [t4, htm]; exact hF.tp, by rw [upd_same]; exact t5 hF.tp hF.ag, fun x hx => ?_, fun hc => ?_⟩
    · rcases List.mem_append.1 hx with hx | hx
      · exact hF.wk x (hmr hx)
      · refine .inl ?_
        have hx' : x ∈ ((S i).told m).2 := hx
        unfold Sv.told at hx'
        split at hx'
        · cases hx'
        · split at hx'
          · rw [List.mem_singleton] at hx'; subst hx'; rfl
          · split at hx'
            · cases hx'
            · rw [List.mem_singleton] at hx'; subst hx'; rfl
    · obtain ⟨c1, c2, c3, c5⟩ := hF.cm hc
      have hmt : m.term = T := by have := hb.2.2.2.1; have := hb.2.2.1; have := (h.fs trivial).2 k hk; omega
      obtain ⟨w1, w2⟩ := (h.ld hF.r2 k hk hka).2.1 m List.mem_cons_self hm4 hb.1 hmt
      have hnxm := g1.nxm hF.r2 k (by omega)
      have hok : m.ok = true := by
        cases hm : m.ok with
        | true => rfl
        | false => have := w2 hm; have := c2 k hk hka; omega
      have hix := w1 hok
      have hf := told_full g1 (k := k) (by have := g1.n; omega) (by rw [hb.1, Int.toNat_natCast]) (c2 k hk hka) hok (by omega) hF.r2
      rw [hf.1, upd_same, t4, List.append_nil]
      refine ⟨t6 c1, fun j hj hja => by rw [hf.2 j]; exact c2 j hj hja, fun x hx h3 => c3 x (hmr hx) h3, fun j hj hja => ?_⟩
      rw [upd_ne _ _ hja]
      rcases c5 j hj hja with ⟨y, hy, hyy⟩ | hd
      · rcases List.mem_cons.1 hy with rfl | hy
        · omega
        · exact .inl ⟨y, hy, hyy⟩
      · exact .inr hd
end
end
section
theorem ones_all {v n : Nat} (h : ∀ k, k < n → v.testBit k = true) : ∀ m, m ≤ n → m ≤ ones v m
  | 0, _ => Nat.zero_le _
  | m + 1, hm => by
    have ih := ones_all h m (by omega)
    rw [ones, if_pos (h m (by omega))]
    omega
theorem ones_up {v m : Nat} : ∀ p, m ≤ p → ones v m ≤ ones v p
  | 0, h => by rw [Nat.le_zero.1 h]; exact Nat.le_refl _
  | p + 1, h => by
    rcases Nat.lt_or_eq_of_le h with h1 | rfl
    · have := ones_up (v := v) (m := m) p (by omega)
      rw [ones]; omega
    · exact Nat.le_refl _
theorem ones_two (i : Nat) : ∀ m, ones (2 ^ i) m ≤ if i < m then 1 else 0
  | 0 => by rw [ones]; exact Nat.zero_le _
  | m + 1 => by
    have ih := ones_two i m
    rw [ones]
    by_cases h : i = m
    · subst h
      rw [if_neg (by omega)] at ih
      rw [if_pos (show i < i + 1 by omega)]
      split <;> omega
    · have : (2 ^ i).testBit m = false := by rw [Nat.testBit_two_pow]; exact decide_eq_false h
      rw [this, if_neg (by decide)]
      split at ih
      · rw [if_pos (by omega)]; omega
      · rw [if_neg (by omega)]; omega
theorem have_all {A : Sv} {n m : Nat} (hid : A.id < n) (h : ∀ k, k < n → k ≠ A.id → m ≤ A.mt.getD k 0) : ∀ p, p ≤ n → (if A.id < p then p else p + 1) ≤ A.have_ m p
  | 0, _ => by rw [if_neg (by omega), Sv.have_]; exact Nat.le_refl _
  | p + 1, hp => by
    have ih := have_all hid h p (by omega)
    rw [Sv.have_]
    by_cases e : p = A.id
    · have e2 : (if p ≠ A.id ∧ m ≤ A.mt.getD p 0 then 1 else 0) = 0 := if_neg (fun h => h.1 e)
      rw [e2]
      rw [if_neg (by omega)] at ih
      rw [if_pos (by omega)]
      omega
    · have e2 : (if p ≠ A.id ∧ m ≤ A.mt.getD p 0 then 1 else 0) = 1 := if_pos ⟨e, h p (by omega) e⟩
      rw [e2]
      split at ih
      · rw [if_pos (by omega)]; omega
      · rw [if_neg (by omega)]; omega
theorem asks_count (A : Sv) (j : Nat) : A.asks.countP (con12 j) ≤ 1 := by
  unfold Sv.asks Sv.ks
  rw [List.countP_map]
  refine Nat.le_trans (countP_filter_le _ _ _) ?_
  have := range_count (con12 j ∘ A.ask) j (fun i hi => by
    have : ((1 = 1 ∧ ((i : Nat) : Int) = (j : Int)) ∨ ((1 : Nat) = 2 ∧ (A.id : Int) = (j : Int))) := of_decide_eq_true (show con12 j (A.ask i) = true from hi)
    rcases this with ⟨_, h⟩ | ⟨h, _⟩
    · omega
    · cases h) A.n
  split at this <;> omega
theorem asks_get {A : Sv} {x : Mg} (h : x ∈ A.asks) : ∃ i, i < A.n ∧ i ≠ A.id ∧ x = A.ask i := by
  unfold Sv.asks at h
  obtain ⟨i, hi, rfl⟩ := List.mem_map.1 h
  exact ⟨i, (ks_mem hi).1, (ks_mem hi).2, rfl⟩
theorem asks_has {A : Sv} {i : Nat} (h : i < A.n) (hi : i ≠ A.id) : A.ask i ∈ A.asks := by
  unfold Sv.asks Sv.ks
  exact List.mem_map_of_mem (List.mem_filter.2 ⟨List.mem_range.2 h, by simp [hi]⟩)
def bound (L : Nat) : Nat := 7 * (4 + 2 * L + 2 * ((L + 16) / 16))
section
variable {n : Nat} {S : Nat → Sv} {M : Mg → Prop} {G : Gh} {a : Nat} {T : Int} {fr : Prop}
/-- A leader's turn begins. -/
theorem Rn.start2 (hI : Inv n S M G) (ha : a < n) (hr : (S a).role = 2) (hup : ∀ k, k < n → Gh.UpTo (S a).log (S k).log) (hfr : fr → ∀ k, k < n → (S k).term ≤ (S a).term) : Rn n a (S a).term fr S (S a).outs := by
  obtain ⟨g1, g2, g3⟩ := hI.good a ha
  have ho := outs_out g1 hr g2 g3 rfl
  refine ⟨fun y hy => (ho y hy).1, fun y hy => ?_, fun j hj hja => ?_, fun j _ _ => outs_count _ _, fun j hj hja => .inl ⟨(S a).send j, outs_has (by omega) (by omega), .inl ⟨by show ((S a).id : Int) = a; rw [g2], rfl, rfl, .inr rfl⟩⟩, Int.le_refl _, fun _ => rfl, hup, fun y hy _ => outs_app g1 hr y hy,
    fun _ j hj hja => ?_, fun e => by omega, fun e => by omega, fun _ e => by omega, fun hf => ⟨by omega, hfr hf⟩⟩
  · obtain ⟨_, _, j, hj, hja, hjj⟩ := ho y hy
    exact ⟨j, hj, hja, .inl hjj⟩
  · have : (S a).outs.countP (con12 j) = 0 := List.countP_eq_zero.2 (fun x hx => by
      have := (ho x hx).2.1
      unfold con12
      simp [this])
    omega
  · have := outs_conv (r := []) g1 hr g2 g3 rfl (fun x hx => by cases hx) hj hja
    rw [List.nil_append] at this
    exact this
theorem start2_phi {A : Sv} (hg : A.Good) (hr : A.role = 2) {c : Nat} (hc : ∀ j, j < A.n → j ≠ A.id → 2 + Qk A j ≤ c) : Phi A A.outs ≤ 7 * c := by
  have h1 : wts A A.outs ≤ A.outs.length * c := wts_const (fun x hx => by
    obtain ⟨i, hi, hia, rfl⟩ := outs_get hx
    have e : wt A (A.send i) = 2 + Qk A i := by
      unfold wt
      rw [if_neg (show ¬ (A.send i).kind = 1 from (by decide : ¬ (3 : Nat) = 1)), if_neg (show ¬ (A.send i).kind = 2 from (by decide : ¬ (3 : Nat) = 2)), if_pos (show (A.send i).kind = 3 from rfl)]
      show 2 + Qk A ((i : Int)).toNat = _
      rw [Int.toNat_natCast]
    rw [e]
    exact hc i hi hia)
  have h2 := outs_le (A := A) hg.n
  have h3 := Nat.mul_le_mul_right c h2
  unfold Phi Rv
  rw [if_neg (by omega)]
  omega
theorem start2_bound {A : Sv} (hg : A.Good) (hr : A.role = 2) : Phi A A.outs ≤ bound A.log.length := by
  refine start2_phi hg hr (c := 4 + 2 * A.log.length + 2 * ((A.log.length + 16) / 16)) (fun j hj _ => ?_)
  have h1 := hg.nxm hr j hj
  unfold Qk
  rw [if_pos hr]
  omega
/-- A turn begins. -/
theorem Rn.start (hI : Inv n S M G) (ha : a < n) (hup : ∀ k, k < n → Gh.UpTo (S a).log (S k).log) (ht : (S a).term < 1152921504606846976) (hlen : (S a).log.length < 4096) (hfr : fr → ∀ k, k < n → (S k).term ≤ (S a).term) :
    ∃ T, Rn n a T fr (upd S a (S a).tick.1) (S a).tick.2 ∧ Phi (S a).tick.1 (S a).tick.2 ≤ bound (S a).log.length := by
  obtain ⟨g1, g2, g3⟩ := hI.good a ha
  have hgt := g1.tick
  unfold Sv.tick at hgt ⊢
  by_cases hr : (S a).role = 2
  · rw [if_pos hr, upd_self]
    exact ⟨_, .start2 hI ha hr hup hfr, start2_bound g1 hr⟩
  · rw [if_neg hr, if_neg (by omega)] at hgt ⊢
    by_cases hn1 : (S a).n = 1
    · rw [if_pos hn1] at hgt ⊢
      have e1 : (S a).cand.lead.role = 2 := ld_role' _
      obtain ⟨e2, e3, e4, e5, e6, e7⟩ := lead_own (S a).cand
      have e3 : (S a).cand.lead.term = (S a).term + 1 := e3
      have e4 : (S a).cand.lead.id = a := e4.trans g2
      have e5 : (S a).cand.lead.n = 1 := e5.trans hn1
      have hout : (S a).cand.lead.outs = [] := by
        cases hx : (S a).cand.lead.outs with
        | nil => rfl
        | cons x r =>
          obtain ⟨i, hi, hia, _⟩ := outs_get (A := (S a).cand.lead) (x := x) (by rw [hx]; exact List.mem_cons_self)
          omega
      rw [hout]
      show ∃ T, Rn n a T fr (upd S a (S a).cand.lead) [] ∧ Phi (S a).cand.lead [] ≤ _
      have hall : ∀ j, j < n → j = a := fun j hj => by omega
      refine ⟨(S a).term + 1, ⟨fun y hy => (by cases hy), fun y hy => (by cases hy), fun j hj hja => absurd (hall j hj) hja, fun j hj hja => absurd (hall j hj) hja, fun j hj hja => absurd (hall j hj) hja, by rw [upd_same]; omega, fun _ => by rw [upd_same]; exact e3, fun j hj => by rw [hall j hj]; exact UpTo.refl _,
        fun y hy => (by cases hy), fun _ j hj hja => absurd (hall j hj) hja, fun e => by rw [upd_same] at e; omega, fun e => by rw [upd_same] at e; omega, fun _ e => by rw [upd_same] at e; omega, fun _ => ⟨by rw [upd_same]; omega, fun j hj => by rw [hall j hj, upd_same]; omega⟩⟩, ?_⟩
      unfold Phi Rv
      rw [if_neg (by omega), wts]
      exact Nat.zero_le _
    · rw [if_neg hn1] at hgt ⊢
      have hgt : (S a).cand.Good := hgt
      show ∃ T, Rn n a T fr (upd S a (S a).cand) (S a).cand.asks ∧ Phi (S a).cand (S a).cand.asks ≤ _
      have hSj : ∀ {j}, j ≠ a → upd S a (S a).cand j = S j := fun hj => upd_ne _ _ hj
      have hk1 : ∀ x ∈ (S a).cand.asks, x.kind = 1 := fun x hx => by
        obtain ⟨i, _, _, rfl⟩ := asks_get hx
        rfl
      refine ⟨(S a).term + 1, ⟨fun y hy => ?_, fun y hy => ?_, fun j hj hja => asks_count _ _, fun j hj hja => ?_, fun j hj hja => .inl ⟨(S a).cand.ask j, asks_has (show j < (S a).n by omega) (show j ≠ (S a).id by omega), .inl ⟨by show ((S a).id : Int) = a; rw [g2], rfl, rfl, .inl rfl⟩⟩, by rw [upd_same]; exact Int.le_refl _, fun _ => by rw [upd_same]; rfl, fun j hj => ?_,
        fun y hy h3 => by have := hk1 y hy; omega, fun e => by rw [upd_same] at e; exact absurd (show (1 : Nat) = 2 from e) (by decide), fun _ => ?_, fun _ => by rw [upd_same]; show (2 ^ (S a).id).testBit a = true; rw [g2]; exact Nat.testBit_two_pow_self, fun hf _ j hj hja => ?_, fun hf => ?_⟩, ?_⟩
      · obtain ⟨i, hi, hia, rfl⟩ := asks_get hy
        have := ask_hrd hgt rfl hi hia
        rw [show (S a).cand.n = n from g3] at this
        exact this
      · obtain ⟨i, hi, hia, rfl⟩ := asks_get hy
        have hi : i < (S a).n := hi
        have hia : i ≠ (S a).id := hia
        exact ⟨i, by omega, by omega, .inl ⟨by show ((S a).id : Int) = a; rw [g2], rfl, rfl, .inl rfl⟩⟩
      · have : (S a).cand.asks.countP (con34 j) = 0 := List.countP_eq_zero.2 (fun x hx => by
          have := hk1 x hx
          unfold con34
          simp [this])
        omega
      · by_cases hja : j = a
        · subst hja; exact UpTo.refl _
        · rw [upd_same, hSj hja]; exact hup j hj
      · rw [upd_same]
        refine ⟨fun x hx => .inl (hk1 x hx), ?_, fun x hx _ => ?_⟩
        · show 2 * ones (2 ^ (S a).id) 7 ≤ n
          have h1 := ones_two (S a).id 7
          have h2 := g1.id
          split at h1 <;> omega
        · obtain ⟨i, _, _, rfl⟩ := asks_get hx
          exact ⟨rfl, rfl⟩
      · rw [hSj hja]
        exact .inl ⟨(S a).cand.ask j, asks_has (show j < (S a).n by omega) (show j ≠ (S a).id by omega), rfl, rfl, by have := hfr hf j hj; omega⟩
      · refine ⟨by rw [upd_same]; exact (by decide : (1 : Nat) ≠ 0), fun j hj => ?_⟩
        by_cases hja : j = a
        · subst hja; rw [upd_same]; exact Int.le_refl _
        · rw [hSj hja]; have := hfr hf j hj; omega
      · have h1 : wts (S a).cand (S a).cand.asks ≤ (S a).cand.asks.length * 2 := wts_const (fun x hx => by unfold wt; rw [if_pos (hk1 x hx)]; exact Nat.le_refl _)
        have h2 : (S a).cand.asks.length ≤ 7 := by
          unfold Sv.asks Sv.ks
          rw [List.length_map]
          exact Nat.le_trans (List.length_filter_le _ _) (by rw [List.length_range]; exact g1.n)
        have h3 : Rv (S a).cand = 7 * (2 + 2 * (S a).log.length + 2 * (((S a).log.length + 16) / 16)) := rfl
        unfold Phi bound
        rw [h3]
        omega
/-- No message is left. -/
theorem Rn.done (h : Rn n a T fr S []) (hI : Inv n S M G) (ha : a < n) : (∀ k, k < n → (S k).term ≤ (S a).term) ∧ ((S a).role = 2 → ∀ k, k < n → k ≠ a → (S a).mt.getD k 0 = (S a).log.length) ∧ (fr → (S a).role = 2) := by
  obtain ⟨g1, g2, g3⟩ := hI.good a ha
  refine ⟨fun k hk => ?_, fun hr k hk hka => ?_, fun hf => ?_⟩
  · by_cases hka : k = a
    · subst hka; exact Int.le_refl _
    · rcases h.tm k hk hka with ⟨y, hy, _⟩ | h2
      · cases hy
      · exact h2
  · rcases (h.ld hr k hk hka).2.2 with ⟨y, hy, _⟩ | h2
    · cases hy
    · exact h2
  · have h0 := (h.fs hf).1
    have h2 := g1.role
    by_cases h1 : (S a).role = 1
    · exfalso
      have hall : ∀ k, k < n → (S a).voters.testBit k = true := fun k hk => by
        by_cases hka : k = a
        · rw [hka]; exact h.cv h1
        · rcases h.cf hf h1 k hk hka with ⟨y, hy, _⟩ | ⟨y, hy, _⟩ | e
          · cases hy
          · cases hy
          · exact e
      have h3 := ones_all hall n (Nat.le_refl _)
      have h4 := ones_up (v := (S a).voters) (m := n) 7 (by have := g1.n; omega)
      have h5 := (h.cd h1).2.1
      omega
    · omega
theorem same_log (hI : Inv n S M G) (ha : a < n) {k : Nat} (hk : k < n) (hka : k ≠ a) (hr : (S a).role = 2) (ht : (S k).term ≤ (S a).term) (hmt : (S a).mt.getD k 0 = (S a).log.length) (htp : Topped (S a)) : (S k).log = (S a).log := by
  obtain ⟨h1, h2, h3⟩ := hI.lead a ha hr
  obtain ⟨h0, htp⟩ := htp
  have hwn : G.W (S a).term ≠ none := by rw [h1]; exact fun h => by cases h
  rcases hI.h1 (S a).term k (S a).log.length hk (.inr (by have := h3 k hk hka; omega)) h0 hwn with h4 | ⟨u, h4, h5, _⟩
  · rw [h2, List.take_length] at h4
    have hl := h4.length_le
    have hkn := known hI ha hk hka hr ht (j := (S a).log.length) (by omega)
    have hg := (hI.good k hk).1
    have hT1 := termAt_bound hg.log hg.t0 (S k).log.length
    have hT2 := hI.mono_ (hI.snd k hk) h0 hl (Nat.le_refl _)
    rw [hkn.2, htp] at hT2
    have hT : termAt (S k).log (S k).log.length = (S a).term := by omega
    have hs := (hI.snd k hk (S k).log.length (by omega) (Nat.le_refl _)).2
    rw [hT, h2, List.take_length] at hs
    exact hs.eq_of_length (by have := hs.length_le; omega)
  · omega
theorem all_agree (hn : 0 < n) {A : Sv} (hid : A.id < n) (hm : ∀ k, k < n → k ≠ A.id → A.mt.getD k 0 = A.log.length) (hag : Agreed n A) : A.commit = A.log.length := by
  rcases hag with h | h
  · exact h
  · have := have_all hid (m := A.log.length) (fun k hk hka => by rw [hm k hk hka]; exact Nat.le_refl _) n (Nat.le_refl _)
    rw [if_pos hid] at this
    omega
end
end
section
/-- What holds while messages come, with no more than so many to come. -/
structure Jn (n a : Nat) (T : Int) (fr cg c4 : Prop) (lg : List Ent) (q : Nat) (ss : List Sv) (way : List Mg) : Prop where
  an : a < n
  rn : Rn n a T fr (fn ss) way
  ph : Phi (fn ss a) way ≤ q
  f : cg → fr ∧ Fn n a c4 lg (fn ss) way
theorem wts_len (A : Sv) : ∀ way : List Mg, way.length ≤ wts A way
  | [] => Nat.zero_le _
  | x :: r => by
    have := wts_len A r
    have := wt_pos A x
    rw [wts, List.length_cons]; omega
section
variable {n a : Nat} {T : Int} {fr cg c4 : Prop} {lg : List Ent} {q d : Nat} {ss : List Sv} {Z : Seen}
theorem Jn.len {way : List Mg} (h : Jn n a T fr cg c4 lg q ss way) : way.length ≤ q := by
  have h1 := wts_len (fn ss a) way
  have h2 := h.ph
  unfold Phi at h2
  omega
theorem Jn.step {m : Mg} {r : List Mg} (h : Jn n a T fr cg c4 lg q ss (m :: r)) (hS : Sys n ss (m :: r) Z d) (hd : d ≤ 4000) {i : Nat} {x : Sv} (hi : m.to = i) (hx : ss[i]? = some x) :
    1 ≤ q ∧ Jn n a T fr cg c4 lg (q - 1) (ss.set i (x.handle m).1) (r ++ (x.handle m).2) := by
  obtain ⟨G, hI, _⟩ := hS.inv
  have hO := hS.tb.l a h.an
  have hL := hS.bd.l a h.an
  have e := fn_get hx
  have hil := (List.getElem?_eq_some_iff.1 hx).1
  have h1 := h.rn.step hI List.mem_cons_self hO h.an (by omega) hi
  rw [e, ← fn_set _ hil] at h1
  have h2 := h.ph
  refine ⟨by omega, h.an, h1.1, by omega, fun hc => ?_⟩
  obtain ⟨hf, hF⟩ := h.f hc
  refine ⟨hf, ?_⟩
  have hr : Rn n a T True (fn ss) (m :: r) := ⟨h.rn.hs, h.rn.kd, h.rn.c1, h.rn.c3, h.rn.tm, h.rn.tl, h.rn.tr, h.rn.up, h.rn.ap, h.rn.ld, h.rn.cd, h.rn.cv, fun _ => h.rn.cf hf, fun _ => h.rn.fs hf⟩
  have h3 := hF.step hr hI List.mem_cons_self hO h.an hi (fun j _ => handle_commit (fn ss j) m)
  rw [e, ← fn_set _ hil] at h3
  exact h3
/-- Who has the newest last entry. -/
def Newest (n a : Nat) (ss : List Sv) : Prop := a < n ∧ ∀ k, k < n → Gh.UpTo (fn ss a).log (fn ss k).log
/-- No server has a greater Term. -/
def Tops (n a : Nat) (ss : List Sv) : Prop := ∀ k, k < n → (fn ss k).term ≤ (fn ss a).term
/-- A leader to whom all others have told that they have all. -/
structure Led (n a : Nat) (ss : List Sv) : Prop where
  nw : Newest n a ss
  tp : Tops n a ss
  r2 : (fn ss a).role = 2
  mt : ∀ k, k < n → k ≠ a → (fn ss a).mt.getD k 0 = (fn ss a).log.length
theorem turn (hS : Sys n ss [] Z d) (hd : d ≤ 4000) (hN : Newest n a ss) {x : Sv} (hx : ss[a]? = some x) {fr : Prop} (hfr : fr → Tops n a ss) : ∃ T, Jn n a T fr False False [] (bound d) (ss.set a x.tick.1) x.tick.2 := by
  obtain ⟨G, hI, _⟩ := hS.inv
  have hL := hS.bd.l a hN.1
  have hT := hS.tb.t a hN.1
  have e := fn_get hx
  have hil := (List.getElem?_eq_some_iff.1 hx).1
  obtain ⟨T, h1, h2⟩ := Rn.start hI hN.1 hN.2 (by omega) (by omega) hfr
  rw [e] at h1 h2 hL
  rw [← fn_set _ hil] at h1
  refine ⟨T, hN.1, h1, ?_, fun hf => hf.elim⟩
  rw [fn_set _ hil, upd_same]
  unfold bound at h2 ⊢
  omega
theorem Jn.rests (h : Jn n a T fr cg c4 lg q ss []) (hS : Sys n ss [] Z d) : Newest n a ss ∧ Tops n a ss ∧ (fr → Led n a ss) := by
  obtain ⟨G, hI, _⟩ := hS.inv
  obtain ⟨h1, h2, h3⟩ := h.rn.done hI h.an
  exact ⟨⟨h.an, h.rn.up⟩, h1, fun hf => ⟨⟨h.an, h.rn.up⟩, h1, h3 hf, h2 (h3 hf)⟩⟩
theorem UpTo_put {l X : List Ent} {t : Int} {b : ByteArray} (h : Gh.UpTo l X) (ht : termAt l l.length ≤ t) : Gh.UpTo (l ++ [⟨t, b⟩]) X := by
  have e : termAt (l ++ [⟨t, b⟩]) (l ++ [(⟨t, b⟩ : Ent)]).length = t := by
    rw [List.length_append, List.length_singleton, termAt_append (by omega), Nat.add_sub_cancel_left]
    rfl
  unfold Gh.UpTo
  rw [e, List.length_append, List.length_singleton]
  rcases h with h | ⟨h1, h2⟩
  · exact .inl (by omega)
  · rcases Int.lt_or_eq_of_le ht with h3 | h3
    · exact .inl (by omega)
    · exact .inr ⟨by omega, by omega⟩
theorem Led.nx (h : Led n a ss) (hS : Sys n ss [] Z d) {j : Nat} (hj : j < n) (hja : j ≠ a) : (fn ss a).nx.getD j 0 = (fn ss a).log.length + 1 := by
  obtain ⟨G, hI, _⟩ := hS.inv
  obtain ⟨g1, g2, g3⟩ := hI.good a h.nw.1
  have h1 := g1.nxm h.r2 j (by omega)
  have h2 := (hS.tb.l a h.nw.1 h.r2).2 j (by omega)
  have h3 := h.mt j hj hja
  omega
/-- What a leader proposes. -/
theorem Led.put (h : Led n a ss) (hS : Sys n ss [] Z d) (hd : d ≤ 4000) {x : Sv} (hx : ss[a]? = some x) {b : ByteArray} (hb : b.size ≤ 65536) : x.propose b = ((x.put b).agree, x.log.length + 1, 0) := by
  have hL := hS.bd.l a h.nw.1
  have hr := h.r2
  rw [fn_get hx] at hr hL
  unfold Sv.propose
  rw [if_neg (fun e => e hr), if_neg (by omega), if_neg (by omega)]
theorem turn3 (h : Led n a ss) (hS : Sys n ss [] Z d) {x : Sv} (hx : ss[a]? = some x) {b : ByteArray} {Z' : Seen} {e : Nat} (hS' : Sys n (ss.set a (x.put b).agree) [] Z' e) :
    (x.put b).agree.role = 2 ∧ ∃ T, Jn n a T True True False (x.log ++ [⟨x.term, b⟩]) 28 (ss.set a (x.put b).agree) (x.put b).agree.outs := by
  have hil := (List.getElem?_eq_some_iff.1 hx).1
  obtain ⟨G0, hI0, _⟩ := hS.inv
  obtain ⟨G, hI, _⟩ := hS'.inv
  have e0 := fn_get hx
  obtain ⟨g1, g2, g3⟩ := hI0.good a h.nw.1
  have hnx := fun j hj hja => h.nx hS (j := j) hj hja
  have hmt := h.mt
  have hr := h.r2
  have hup := h.nw.2
  have htp := h.tp
  unfold Tops at htp
  rw [e0] at g1 g2 g3 hnx hmt hr hup htp
  have hr' : (x.put b).agree.role = 2 := hr
  have hfa : fn (ss.set a (x.put b).agree) a = (x.put b).agree := by rw [fn_set _ hil, upd_same]
  have hfj : ∀ {j}, j ≠ a → fn (ss.set a (x.put b).agree) j = fn ss j := fun hj => by rw [fn_set _ hil, upd_ne _ _ hj]
  have hl : (x.put b).agree.log = x.log ++ [⟨x.term, b⟩] := rfl
  have hll : (x.log ++ [(⟨x.term, b⟩ : Ent)]).length = x.log.length + 1 := by rw [List.length_append]; rfl
  have hT : Topped (x.put b) := by
    refine ⟨by show 0 < (x.log ++ [_]).length; rw [hll]; omega, ?_⟩
    show termAt (x.log ++ [⟨x.term, b⟩]) (x.log ++ [(⟨x.term, b⟩ : Ent)]).length = x.term
    rw [hll, termAt_append (by omega), Nat.add_sub_cancel_left]
    rfl
  have hgg := (hI.good a h.nw.1).1
  rw [hfa] at hgg
  refine ⟨hr', x.term, h.nw.1, ?_, ?_, fun _ => ⟨trivial, ⟨by rw [hfa]; rfl, by rw [hfa]; exact hr', by rw [hfa]; exact hT, by rw [hfa]; exact agree_agreed (A := x.put b) g3 (by show x.commit ≤ (x.log ++ [_]).length; rw [hll]; have := g1.com; omega) hT, fun m hm => ?_, fun e => e.elim⟩⟩⟩
  · have := Rn.start2 hI h.nw.1 (fr := True) (by rw [hfa]; exact hr') (fun k hk => by
      rw [hfa]
      by_cases hka : k = a
      · subst hka; rw [hfa]; exact UpTo.refl _
      · rw [hfj hka, hl]
        exact UpTo_put (hup k hk) (termAt_bound g1.log g1.t0 _)) (fun _ k hk => by
      rw [hfa]
      by_cases hka : k = a
      · subst hka; rw [hfa]; exact Int.le_refl _
      · rw [hfj hka]; exact htp k hk)
    rw [hfa] at this
    exact this
  · rw [hfa]
    refine start2_phi hgg hr' (c := 4) (fun j hj hja => ?_)
    have hj : j < x.n := hj
    have hja : j ≠ x.id := hja
    unfold Qk
    rw [if_pos hr']
    show 2 + (2 * (x.nx.getD j 0 - x.mt.getD j 0 - 1) + 2 * (((x.log ++ [_]).length - x.mt.getD j 0 + 15) / 16)) ≤ 4
    rw [hll, hnx j (by omega) (by omega), hmt j (by omega) (by omega)]
    omega
  · obtain ⟨i, hi, hia, rfl⟩ := outs_get hm
    exact .inl rfl
theorem turn4 (h : Jn n a T True True c4 lg q ss []) (hS : Sys n ss [] Z d) {x : Sv} (hx : ss[a]? = some x) : x.log = lg ∧ x.commit = lg.length ∧ Led n a ss ∧ x.role = 2 ∧ ∃ T, Jn n a T True True True lg 14 ss x.outs := by
  obtain ⟨G, hI, _⟩ := hS.inv
  have hil := (List.getElem?_eq_some_iff.1 hx).1
  have e0 := fn_get hx
  have hL := (h.rests hS).2.2 trivial
  obtain ⟨_, hF⟩ := h.f trivial
  obtain ⟨g1, g2, g3⟩ := hI.good a h.an
  have hnx := fun j hj hja => hL.nx hS (j := j) hj hja
  have hcm := all_agree (by have := h.an; omega) (A := fn ss a) (n := n) (by rw [g2]; exact h.an) (fun k hk hka => hL.mt k hk (by rw [g2] at hka; exact hka)) hF.ag
  have hlg := hF.lg
  have hmt := hL.mt
  have hst := Rn.start2 hI h.an (fr := True) hL.r2 hL.nw.2 (fun _ => hL.tp)
  have hr := hL.r2
  have htp := hF.tp
  have hag := hF.ag
  rw [e0] at g1 g2 g3 hnx hcm hlg hmt hst hr htp hag
  refine ⟨hlg, by rw [hcm, hlg], hL, hr, x.term, h.an, hst, ?_, fun _ => ⟨trivial, ⟨by rw [e0]; exact hlg, by rw [e0]; exact hr, by rw [e0]; exact htp, by rw [e0]; exact hag, fun m hm => ?_, fun _ => ?_⟩⟩⟩
  · rw [e0]
    refine start2_phi g1 hr (c := 2) (fun j hj hja => ?_)
    unfold Qk
    rw [if_pos hr, hnx j (by omega) (by omega), hmt j (by omega) (by omega)]
    omega
  · obtain ⟨i, hi, hia, rfl⟩ := outs_get hm
    exact .inl rfl
  · rw [e0]
    refine ⟨hcm, hmt, fun m hm _ => ?_, fun k hk hka => .inl ⟨x.send k, outs_has (by omega) (by omega), rfl, rfl⟩⟩
    obtain ⟨i, hi, hia, rfl⟩ := outs_get hm
    have e1 := hnx i (by omega) (by omega)
    have e2 := (send_app (A := x) (k := i) (by omega)).2
    refine ⟨by show (x.commit : Int) = _; rw [hcm], ?_⟩
    rw [e2]
    show ((x.nx.getD i 0 - 1 : Nat) : Int) + _ = _
    omega
/-- All have all. -/
theorem last (h : Jn n a T True True True lg q ss []) (hS : Sys n ss [] Z d) {i : Nat} {x : Sv} (hx : ss[i]? = some x) : x.log = lg ∧ x.commit = lg.length ∧ x.leader = a := by
  obtain ⟨G, hI, _⟩ := hS.inv
  have hil := (List.getElem?_eq_some_iff.1 hx).1
  have hin : i < n := by rw [← hS.len]; exact hil
  have e0 := fn_get hx
  obtain ⟨_, hF⟩ := h.f trivial
  have hL := (h.rests hS).2.2 trivial
  obtain ⟨c1, c2, _, c4⟩ := hF.cm trivial
  by_cases hia : i = a
  · subst hia
    have h1 := hF.lg
    have h2 := hS.tb.l i hin hL.r2
    have h3 := (hI.good i hin).2.1
    rw [e0] at h1 h2 h3 c1
    exact ⟨h1, by rw [c1, h1], by rw [h2.1, h3]⟩
  · have h1 := same_log hI h.an hin hia hL.r2 (hL.tp i hin) (c2 i hin hia) hF.tp
    rcases c4 i hin hia with ⟨y, hy, _⟩ | ⟨h2, h3⟩
    · cases hy
    · have h4 := (hI.good i hin).1.com
      have h5 := hF.lg
      rw [e0] at h1 h2 h3 h4
      rw [h5] at h1 h2
      rw [h1] at h4
      exact ⟨h1, by omega, h3⟩
end
end
end Go.Proofs.Ytjodglepaeomiaa
