/- The plain proof of Raft's safety: what is remembered of all that was, what every step keeps, and what the law looks at. No walk. -/
import Derived.Test.YtjodglepaeomiaaOpn
namespace Go.Proofs.Ytjodglepaeomiaa

theorem df_at (log : List Ent) : ∀ (r : List Ent) (k j : Nat), j < differs log r k → ∀ x, r[j]? = some x → k + 1 + j ≤ log.length ∧ termAt log (k + 1 + j) = x.term
  | [], k, j, h, _, _ => by rw [differs] at h; omega
  | y :: r, k, j, h, x, hx => by
    rw [differs] at h
    by_cases hc : log.length < k + 1 ∨ termAt log (k + 1) ≠ y.term
    · rw [if_pos hc] at h; omega
    · rw [if_neg hc] at h
      cases j with
      | zero =>
        have : y = x := by simpa using hx
        subst this
        exact ⟨by have := fun h => hc (.inl h); omega, Decidable.not_not.1 (fun h => hc (.inr h))⟩
      | succ j =>
        have := df_at log r (k + 1) j (by omega) x (by simpa using hx)
        rw [show k + 1 + (j + 1) = k + 1 + 1 + j by omega]
        exact this
theorem df_end (log : List Ent) : ∀ (r : List Ent) (k : Nat) x, r[differs log r k]? = some x → log.length < k + 1 + differs log r k ∨ termAt log (k + 1 + differs log r k) ≠ x.term
  | [], k, x, h => by simp at h
  | y :: r, k, x, hx => by
    rw [differs] at hx ⊢
    by_cases hc : log.length < k + 1 ∨ termAt log (k + 1) ≠ y.term
    · rw [if_pos hc] at hx ⊢
      have : y = x := by simpa using hx
      subst this
      exact hc
    · rw [if_neg hc] at hx ⊢
      have := df_end log r (k + 1) x (by simpa using hx)
      rw [show k + 1 + (differs log r (k + 1) + 1) = k + 1 + 1 + differs log r (k + 1) by omega]
      exact this
theorem ld_role' (S : Sv) : S.lead.role = 2 := by unfold Sv.lead Sv.agree Sv.lead2; split <;> rfl

/-! Counts. -/
open Classical in
noncomputable def cntP (p : Nat → Prop) : Nat → Nat
  | 0 => 0
  | k + 1 => cntP p k + if p k then 1 else 0
theorem cntP_le (p : Nat → Prop) : ∀ n, cntP p n ≤ n
  | 0 => Nat.le_refl _
  | n + 1 => by have := cntP_le p n; rw [cntP]; split <;> omega
theorem cntP_mono {p q : Nat → Prop} : ∀ n, (∀ j, j < n → p j → q j) → cntP p n ≤ cntP q n
  | 0, _ => Nat.le_refl _
  | n + 1, h => by
    have ih := cntP_mono n (fun j hj => h j (by omega))
    rw [cntP, cntP]
    by_cases hp : p n
    · rw [if_pos hp, if_pos (h n (by omega) hp)]; omega
    · rw [if_neg hp]; split <;> omega
theorem cntP_meet {p q : Nat → Prop} : ∀ n, (∀ j, j < n → p j → ¬ q j) → cntP p n + cntP q n ≤ n
  | 0, _ => Nat.le_refl _
  | n + 1, h => by
    have ih := cntP_meet n (fun j hj => h j (by omega))
    rw [cntP, cntP]
    by_cases hp : p n
    · rw [if_pos hp, if_neg (h n (by omega) hp)]; omega
    · rw [if_neg hp]; split <;> omega
/-- More than half of n. -/
def Quo (n : Nat) (p : Nat → Prop) : Prop := n < 2 * cntP p n
theorem Quo.mono {n : Nat} {p q : Nat → Prop} (h : Quo n p) (hpq : ∀ j, j < n → p j → q j) : Quo n q := by
  have := cntP_mono n hpq
  unfold Quo at *
  omega
theorem Quo.meet {n : Nat} {p q : Nat → Prop} (h : Quo n p) (k : Quo n q) : ∃ j, j < n ∧ p j ∧ q j := by
  apply Classical.byContradiction
  intro hn
  have := cntP_meet (p := p) (q := q) n (fun j hj hp hq => hn ⟨j, hj, hp, hq⟩)
  unfold Quo at *
  omega

/-! Logs. -/
theorem pre_take {l m : List Ent} (h : l <+: m) (k : Nat) : l.take k <+: m.take k := by
  obtain ⟨r, rfl⟩ := h
  rw [List.take_append]
  exact List.prefix_append _ _
theorem pre_len {l m : List Ent} (h : l <+: m) : l.length ≤ m.length := h.length_le
theorem pre_eq {l m : List Ent} (h : l <+: m) {k : Nat} (hk : k ≤ l.length) : l.take k = m.take k := by
  obtain ⟨r, rfl⟩ := h
  rw [List.take_append_of_le_length hk]
theorem pre_of_take {l m : List Ent} {k : Nat} (h : l.take k = m.take k) : l.take k <+: m := h ▸ List.take_prefix _ _
theorem pre_both {a b c : List Ent} (h : a <+: c) (k : b <+: c) (hl : a.length ≤ b.length) : a <+: b := List.prefix_of_prefix_length_le h k hl
theorem termAt_succ (l : List Ent) (k : Nat) : termAt l (k + 1) = ((l[k]?).map Ent.term).getD 0 := rfl
theorem termAt_take {l : List Ent} {k m : Nat} (h : m ≤ k) : termAt (l.take k) m = termAt l m := by
  cases m with
  | zero => rfl
  | succ m => rw [termAt_succ, termAt_succ, List.getElem?_take, if_pos (by omega)]
theorem termAt_pre {l m : List Ent} (h : l <+: m) {k : Nat} (hk : k ≤ l.length) : termAt l k = termAt m k := by
  obtain ⟨r, rfl⟩ := h
  cases k with
  | zero => rfl
  | succ k => rw [termAt_succ, termAt_succ, List.getElem?_append_left (by omega)]
theorem termAt_beyond {l : List Ent} {k : Nat} (h : l.length < k) : termAt l k = 0 := by
  cases k with
  | zero => rfl
  | succ k => rw [termAt_succ, List.getElem?_eq_none (by omega)]; rfl
theorem termAt_append {l m : List Ent} {k : Nat} (h : l.length < k) : termAt (l ++ m) k = termAt m (k - l.length) := by
  obtain ⟨j, rfl⟩ : ∃ j, k = j + 1 := ⟨k - 1, by omega⟩
  rw [show j + 1 - l.length = (j - l.length) + 1 by omega]
  rw [termAt_succ, termAt_succ, List.getElem?_append_right (by omega)]

/-! What is remembered of all that was. -/
structure Gh where
  V : Int → Nat → Option Nat
  VL : Int → Nat → List Ent
  E : Int → Nat → Prop
  W : Int → Option Nat
  LL : Int → List Ent
  K : Int → Nat → Nat
namespace Gh
def BL (G : Gh) (t : Int) : List Ent := match G.W t with | some c => G.VL t c | none => []
def Ack (G : Gh) (t : Int) (j k : Nat) : Prop := (G.W t = some j ∧ k ≤ (G.LL t).length) ∨ k ≤ G.K t j
def Sound (G : Gh) (X : List Ent) : Prop := ∀ k, 0 < k → k ≤ X.length → G.W (termAt X k) ≠ none ∧ X.take k <+: G.LL (termAt X k)
def CP (G : Gh) (n : Nat) (T : Int) (p : List Ent) : Prop :=
  p = [] ∨ ∃ t k, t ≤ T ∧ G.W t ≠ none ∧ 0 < k ∧ k ≤ (G.LL t).length ∧ termAt (G.LL t) k = t ∧ Quo n (fun j => G.Ack t j k) ∧ p <+: (G.LL t).take k
/-- The last entry of A is as new as that of B. -/
def UpTo (A B : List Ent) : Prop := termAt B B.length < termAt A A.length ∨ (termAt A A.length = termAt B B.length ∧ B.length ≤ A.length)
structure MOk (G : Gh) (n : Nat) (m : Mg) : Prop where
  to0 : 0 ≤ m.to
  to1 : m.to < n
  k1 : m.kind = 1 → ∃ c : Nat, m.frm = c ∧ G.V m.term c = some c ∧ m.index = (G.VL m.term c).length ∧ m.logTerm = termAt (G.VL m.term c) (G.VL m.term c).length
  k2 : m.kind = 2 → m.ok = true → ∃ j c : Nat, m.frm = j ∧ m.to = c ∧ G.V m.term j = some c
  k3 : m.kind = 3 → ∃ c i q : Nat, m.frm = c ∧ G.W m.term = some c ∧ m.index = i ∧ m.commit = q ∧ i + m.ents.length ≤ (G.LL m.term).length ∧ m.logTerm = termAt (G.LL m.term) i ∧
    m.ents = ((G.LL m.term).take (i + m.ents.length)).drop i ∧ q ≤ (G.LL m.term).length ∧ G.CP n m.term ((G.LL m.term).take q)
  k4 : m.kind = 4 → m.ok = true → ∃ j i : Nat, m.frm = j ∧ m.index = i ∧ i ≤ G.K m.term j
/-- What was stays. -/
structure Le (G G' : Gh) : Prop where
  v : ∀ t j c, G.V t j = some c → G'.V t j = some c ∧ G'.VL t j = G.VL t j ∧ (G.E t j → G'.E t j)
  w : ∀ t c, G.W t = some c → G'.W t = some c ∧ G.LL t <+: G'.LL t ∧ G.V t c = some c
  k : ∀ t j, G.K t j ≤ G'.K t j
end Gh
structure Inv (n : Nat) (S : Nat → Sv) (M : Mg → Prop) (G : Gh) : Prop where
  good : ∀ i, i < n → (S i).Good ∧ (S i).id = i ∧ (S i).n = n
  snd : ∀ i, i < n → G.Sound (S i).log
  vt : ∀ t j c, G.V t j = some c → 1 ≤ t ∧ j < n ∧ c < n ∧ t ≤ (S j).term ∧ t ≤ (S c).term ∧ G.V t c = some c ∧ G.Sound (G.VL t j) ∧ Gh.UpTo (G.VL t c) (G.VL t j)
  vc : ∀ t c, G.V t c = some c → ∀ k, termAt (G.VL t c) k < t
  v0 : ∀ j, j < n → (S j).vote = -1 → G.V (S j).term j = none
  v1 : ∀ j, j < n → ∀ c : Nat, (S j).vote = c → G.V (S j).term j = some c
  ev : ∀ t, G.W t = none → ∀ j c, G.V t j = some c → G.E t j
  cand : ∀ i, i < n → (S i).role = 1 → G.V (S i).term i = some i ∧ G.VL (S i).term i = (S i).log ∧ G.W (S i).term ≠ some i ∧ ∀ k, k < 7 → (S i).voters.testBit k = true → G.V (S i).term k = some i
  lead : ∀ i, i < n → (S i).role = 2 → G.W (S i).term = some i ∧ G.LL (S i).term = (S i).log ∧ ∀ k, k < n → k ≠ i → (S i).mt.getD k 0 ≤ G.K (S i).term k
  w : ∀ t c, G.W t = some c → 1 ≤ t ∧ c < n ∧ t ≤ (S c).term ∧ Quo n (fun j => G.V t j = some c ∧ G.E t j) ∧ G.V t c = some c ∧ G.Sound (G.LL t) ∧ (∃ o, G.LL t = G.VL t c ++ o ∧ ∀ e ∈ o, e.term = t)
  k : ∀ t j, 0 < G.K t j → j < n ∧ t ≤ (S j).term ∧ G.W t ≠ none ∧ G.K t j ≤ (G.LL t).length
  h1 : ∀ t j k, j < n → G.Ack t j k → 0 < k → G.W t ≠ none → (G.LL t).take k <+: (S j).log ∨ ∃ u, t < u ∧ u ≤ (S j).term ∧ G.W u ≠ none ∧ ¬ (G.LL t).take k <+: G.BL u
  h2 : ∀ t u j k c, G.V u j = some c → G.E u j → t < u → G.Ack t j k → 0 < k → G.W t ≠ none → (G.LL t).take k <+: G.VL u j ∨ ∃ x, t < x ∧ x < u ∧ G.W x ≠ none ∧ ¬ (G.LL t).take k <+: G.BL x
  cm : ∀ i, i < n → G.CP n (S i).term ((S i).log.take (S i).commit)
  ms : ∀ m, M m → G.MOk n m

/-! What follows at once. -/
section
variable {n : Nat} {S : Nat → Sv} {M : Mg → Prop} {G G' : Gh}
theorem Gh.bl {t : Int} {c : Nat} (h : G.W t = some c) : G.BL t = G.VL t c := by unfold Gh.BL; rw [h]
theorem some_of {α : Type} {o : Option α} (h : o ≠ none) : ∃ c, o = some c := by
  cases o with
  | none => exact absurd rfl h
  | some c => exact ⟨c, rfl⟩
theorem Inv.bl_pre (h : Inv n S M G) {t : Int} {c : Nat} (hw : G.W t = some c) : G.BL t <+: G.LL t := by
  obtain ⟨_, _, _, _, _, _, o, ho, _⟩ := h.w t c hw
  rw [Gh.bl hw, ho]
  exact List.prefix_append _ _
theorem Inv.ll_le (h : Inv n S M G) {t : Int} {c : Nat} (hw : G.W t = some c) (k : Nat) : termAt (G.LL t) k ≤ t := by
  obtain ⟨ht, _, _, _, hv, _, o, ho, hterm⟩ := h.w t c hw
  rcases Nat.lt_or_ge (G.VL t c).length k with h1 | h1
  · rw [ho, termAt_append h1]
    rcases Nat.lt_or_ge o.length (k - (G.VL t c).length) with h2 | h2
    · rw [termAt_beyond h2]; omega
    · obtain ⟨j, hj⟩ : ∃ j, k - (G.VL t c).length = j + 1 := ⟨k - (G.VL t c).length - 1, by omega⟩
      rw [hj, termAt_succ, List.getElem?_eq_getElem (by omega)]
      show (o[j]).term ≤ t
      rw [hterm _ (List.getElem_mem _)]
      exact Int.le_refl _
  · rw [ho, ← termAt_pre (List.prefix_append _ _) h1]
    have := h.vc t c hv k
    omega
theorem Inv.mono_ (h : Inv n S M G) {X : List Ent} (hX : G.Sound X) {i j : Nat} (hi : 0 < i) (hij : i ≤ j) (hj : j ≤ X.length) : termAt X i ≤ termAt X j := by
  obtain ⟨hw, hp⟩ := hX j (by omega) hj
  obtain ⟨c, hc⟩ := some_of hw
  have h1 := h.ll_le hc i
  rw [← termAt_pre hp (by rw [List.length_take]; omega), termAt_take hij] at h1
  exact h1
theorem Inv.ack_le (h : Inv n S M G) {t : Int} {j k : Nat} (ha : G.Ack t j k) : k ≤ (G.LL t).length := by
  rcases ha with ha | ha
  · exact ha.2
  · rcases Nat.eq_zero_or_pos (G.K t j) with h0 | h0
    · omega
    · have := (h.k t j h0).2.2.2; omega
theorem CP_none {n : Nat} {G : Gh} {T : Int} : G.CP n T [] := .inl rfl
theorem Gh.CP.mono {T U : Int} {p : List Ent} (h : G.CP n T p) (hT : T ≤ U) : G.CP n U p := by
  rcases h with h | ⟨t, k, h1, h2⟩
  · exact .inl h
  · exact .inr ⟨t, k, by omega, h2⟩
theorem Gh.CP.sub {T : Int} {p q : List Ent} (h : G.CP n T p) (hq : q <+: p) : G.CP n T q := by
  rcases h with h | ⟨t, k, h1, h2, h3, h4, h5, h6, h7⟩
  · rw [h] at hq; exact .inl (List.prefix_nil.1 hq)
  · exact .inr ⟨t, k, h1, h2, h3, h4, h5, h6, hq.trans h7⟩
/-- Each later leader has what is committed. -/
theorem Inv.lc (h : Inv n S M G) {t : Int} {k : Nat} (h0 : 0 < k) (hk : k ≤ (G.LL t).length) (hw : G.W t ≠ none) (ht : termAt (G.LL t) k = t) (hq : Quo n (fun j => G.Ack t j k)) :
    ∀ (m : Nat) (u : Int), (u - t).toNat ≤ m → t < u → G.W u ≠ none → (G.LL t).take k <+: G.BL u
  | 0, u, hm, htu, _ => by omega
  | m + 1, u, hm, htu, hwu => by
    obtain ⟨c, hc⟩ := some_of hwu
    obtain ⟨hu1, hcn, _, hqu, hvc, _, _⟩ := h.w u c hc
    obtain ⟨j, hjn, hack, hvj, hej⟩ := hq.meet hqu
    have hA : (G.LL t).take k <+: G.VL u j := by
      rcases h.h2 t u j k c hvj hej htu hack h0 hw with h1 | ⟨x, hx1, hx2, hx3, hx4⟩
      · exact h1
      · exact absurd (h.lc h0 hk hw ht hq m x (by omega) hx1 hx3) hx4
    obtain ⟨_, _, _, _, _, _, hsA, hup⟩ := h.vt u j c hvj
    have hsB := (h.vt u c c hvc).2.2.2.2.2.2.1
    rw [Gh.bl hc]
    have hkl : ((G.LL t).take k).length = k := by rw [List.length_take]; omega
    have hkA : k ≤ (G.VL u j).length := by have := pre_len hA; omega
    have htA : t ≤ termAt (G.VL u j) (G.VL u j).length := by
      have h1 := h.mono_ hsA h0 hkA (Nat.le_refl _)
      rw [← termAt_pre hA (by omega), termAt_take (Nat.le_refl _), ht] at h1
      exact h1
    have ht1 : 1 ≤ t := by
      obtain ⟨c', hc'⟩ := some_of hw
      exact (h.w t c' hc').1
    rcases hup with hlt | ⟨heq, hlen⟩
    · generalize hb : termAt (G.VL u c) (G.VL u c).length = b at *
      have hBpos : 0 < (G.VL u c).length := by
        rcases Nat.eq_zero_or_pos (G.VL u c).length with h1 | h1
        · rw [h1] at hb
          have h2 : (0 : Int) = b := hb
          omega
        · exact h1
      have hbu : b < u := by rw [← hb]; exact h.vc u c hvc _
      have htb : t < b := by omega
      obtain ⟨hwb, hpb⟩ := hsB _ hBpos (Nat.le_refl _)
      rw [hb, List.take_length] at hpb
      rw [hb] at hwb
      have hIH := h.lc h0 hk hw ht hq m b (by omega) htb hwb
      obtain ⟨c', hc'⟩ := some_of hwb
      have hbl := h.bl_pre hc'
      refine hIH.trans (pre_both hbl hpb ?_)
      apply Nat.le_of_not_lt
      intro hle
      have h1 := termAt_pre hpb (Nat.le_refl _)
      rw [hb, ← termAt_pre hbl (by omega), Gh.bl hc'] at h1
      have := h.vc b c' (h.w b c' hc').2.2.2.2.1 (G.VL u c).length
      omega
    · have hApos : 0 < (G.VL u j).length := by omega
      obtain ⟨_, hpA⟩ := hsA _ hApos (Nat.le_refl _)
      obtain ⟨_, hpB⟩ := hsB (G.VL u c).length (by omega) (Nat.le_refl _)
      rw [heq] at hpB
      rw [List.take_length] at hpA hpB
      exact hA.trans (pre_both hpA hpB hlen)
theorem Inv.lc' (h : Inv n S M G) {t u : Int} {k : Nat} (h0 : 0 < k) (hk : k ≤ (G.LL t).length) (hw : G.W t ≠ none) (ht : termAt (G.LL t) k = t) (hq : Quo n (fun j => G.Ack t j k)) (htu : t ≤ u) (hu : G.W u ≠ none) : (G.LL t).take k <+: G.LL u := by
  rcases Int.lt_or_eq_of_le htu with h1 | h1
  · obtain ⟨c, hc⟩ := some_of hu
    exact (h.lc h0 hk hw ht hq _ u (Nat.le_refl _) h1 hu).trans (h.bl_pre hc)
  · subst h1; exact List.take_prefix _ _
/-- What is committed is one list. -/
theorem Inv.compat (h : Inv n S M G) {T U : Int} {p q : List Ent} (hp : G.CP n T p) (hq : G.CP n U q) : p <+: q ∨ q <+: p := by
  rcases hp with rfl | ⟨t, k, _, hw, h0, hk, ht, hQ, hpk⟩
  · exact .inl (List.nil_prefix)
  rcases hq with rfl | ⟨u, l, _, hw', h0', hl, hu, hQ', hql⟩
  · exact .inr (List.nil_prefix)
  have key : ∃ Z, p <+: Z ∧ q <+: Z := by
    rcases Int.le_total t u with h1 | h1
    · exact ⟨G.LL u, hpk.trans (h.lc' h0 hk hw ht hQ h1 hw'), hql.trans (List.take_prefix _ _)⟩
    · exact ⟨G.LL t, hpk.trans (List.take_prefix _ _), hql.trans (h.lc' h0' hl hw' hu hQ' h1 hw)⟩
  obtain ⟨Z, a, b⟩ := key
  rcases Nat.le_total p.length q.length with h1 | h1
  · exact .inl (pre_both a b h1)
  · exact .inr (pre_both b a h1)
/-- A leader has what was committed in its own or lesser terms. -/
theorem Inv.kept (h : Inv n S M G) {T : Int} {p : List Ent} {i : Nat} (hi : i < n) (hr : (S i).role = 2) (hp : G.CP n T p) (hT : T ≤ (S i).term) : p <+: (S i).log := by
  obtain ⟨hw, hl, _⟩ := h.lead i hi hr
  rcases hp with rfl | ⟨t, k, ht, hw', h0, hk, htm, hQ, hpk⟩
  · exact List.nil_prefix
  · rw [← hl]
    exact hpk.trans (h.lc' h0 hk hw' htm hQ (by omega) (by rw [hw]; exact fun e => by cases e))
/-- One leader a term. -/
theorem Inv.one (h : Inv n S M G) {i j : Nat} (hi : i < n) (hj : j < n) (hri : (S i).role = 2) (hrj : (S j).role = 2) (ht : (S i).term = (S j).term) : i = j := by
  have h1 := (h.lead i hi hri).1
  have h2 := (h.lead j hj hrj).1
  rw [ht] at h1
  exact Option.some.inj (h1.symm.trans h2)
/-- Logs that have entries of one term at one number are the same up to there. -/
theorem Inv.match_ (h : Inv n S M G) {X Y : List Ent} (hX : G.Sound X) (hY : G.Sound Y) {k : Nat} (h0 : 0 < k) (hx : k ≤ X.length) (hy : k ≤ Y.length) (ht : termAt X k = termAt Y k) : X.take k = Y.take k := by
  have h1 := (hX k h0 hx).2
  have h2 := (hY k h0 hy).2
  rw [← ht] at h2
  have e1 : (X.take k).length = k := by rw [List.length_take]; omega
  have e2 : (Y.take k).length = k := by rw [List.length_take]; omega
  exact (pre_both h1 h2 (by omega)).eq_of_length (by omega)

/-! What was stays. -/
theorem Gh.Le.ack (hl : G.Le G') {t : Int} {j k : Nat} (h : G.Ack t j k) : G'.Ack t j k := by
  rcases h with h | h
  · exact .inl ⟨(hl.w t j h.1).1, Nat.le_trans h.2 (pre_len (hl.w t j h.1).2.1)⟩
  · exact .inr (Nat.le_trans h (hl.k t j))
theorem Gh.Le.ll (hl : G.Le G') {t : Int} (h : G.W t ≠ none) : G'.W t ≠ none ∧ G.LL t <+: G'.LL t := by
  obtain ⟨c, hc⟩ := some_of h
  have := hl.w t c hc
  exact ⟨by rw [this.1]; exact (fun e => by cases e), this.2.1⟩
theorem Gh.Le.bl (hl : G.Le G') {t : Int} (h : G.W t ≠ none) : G'.BL t = G.BL t := by
  obtain ⟨c, hc⟩ := some_of h
  obtain ⟨h1, _, h2⟩ := hl.w t c hc
  rw [Gh.bl hc, Gh.bl h1, (hl.v t c c h2).2.1]
theorem Gh.Le.sound (hl : G.Le G') {X : List Ent} (h : G.Sound X) : G'.Sound X := fun k h0 hk =>
  ⟨(hl.ll (h k h0 hk).1).1, (h k h0 hk).2.trans (hl.ll (h k h0 hk).1).2⟩
theorem Gh.Le.cp (hl : G.Le G') {T : Int} {p : List Ent} (h : G.CP n T p) : G'.CP n T p := by
  rcases h with h | ⟨t, k, h1, h2, h3, h4, h5, h6, h7⟩
  · exact .inl h
  · obtain ⟨e1, e2⟩ := hl.ll h2
    refine .inr ⟨t, k, h1, e1, h3, Nat.le_trans h4 (pre_len e2), by rw [← termAt_pre e2 h4]; exact h5, h6.mono (fun j _ ha => hl.ack ha), ?_⟩
    rw [← pre_eq e2 h4]; exact h7
theorem Gh.Le.mok (hl : G.Le G') {m : Mg} (h : G.MOk n m) : G'.MOk n m := by
  refine ⟨h.to0, h.to1, fun hk => ?_, fun hk ho => ?_, fun hk => ?_, fun hk ho => ?_⟩
  · obtain ⟨c, h1, h2, h3⟩ := h.k1 hk
    obtain ⟨e1, e2, _⟩ := hl.v _ _ _ h2
    exact ⟨c, h1, e1, by rw [e2]; exact h3⟩
  · obtain ⟨j, c, h1, h2, h3⟩ := h.k2 hk ho
    exact ⟨j, c, h1, h2, (hl.v _ _ _ h3).1⟩
  · obtain ⟨c, i, q, h1, h2, h3, h4, h5, h6, h7, h8, h9⟩ := h.k3 hk
    obtain ⟨e1, e2, _⟩ := hl.w _ _ h2
    refine ⟨c, i, q, h1, e1, h3, h4, Nat.le_trans h5 (pre_len e2), by rw [← termAt_pre e2 (by omega)]; exact h6, by rw [← pre_eq e2 h5]; exact h7, Nat.le_trans h8 (pre_len e2), by rw [← pre_eq e2 h8]; exact hl.cp h9⟩
  · obtain ⟨j, i, h1, h2, h3⟩ := h.k4 hk ho
    exact ⟨j, i, h1, h2, Nat.le_trans h3 (hl.k _ _)⟩
def upd (S : Nat → Sv) (i : Nat) (x : Sv) : Nat → Sv := fun j => if j = i then x else S j
theorem upd_same (S : Nat → Sv) (i : Nat) (x : Sv) : upd S i x i = x := if_pos rfl
theorem upd_ne (S : Nat → Sv) {i j : Nat} (x : Sv) (h : j ≠ i) : upd S i x j = S j := if_neg h

theorem upd_term {i : Nat} {x : Sv} (h : (S i).term ≤ x.term) (j : Nat) : (S j).term ≤ (upd S i x j).term := by
  unfold upd; split
  · rename_i e; rw [e]; exact h
  · exact Int.le_refl _
/-- A server moves on, and nothing else is remembered. -/
theorem Inv.frame (h : Inv n S M G) {i : Nat} (hi : i < n) {x : Sv} (hg : x.Good ∧ x.id = i ∧ x.n = n) (hlog : x.log = (S i).log) (ht : (S i).term ≤ x.term)
    (h0 : x.vote = -1 → G.V x.term i = none) (h1 : ∀ c : Nat, x.vote = c → G.V x.term i = some c)
    (hc : x.role = 1 → G.V x.term i = some i ∧ G.VL x.term i = x.log ∧ G.W x.term ≠ some i ∧ ∀ k, k < 7 → x.voters.testBit k = true → G.V x.term k = some i)
    (hl : x.role = 2 → G.W x.term = some i ∧ G.LL x.term = x.log ∧ ∀ k, k < n → k ≠ i → x.mt.getD k 0 ≤ G.K x.term k)
    (hcm : G.CP n x.term (x.log.take x.commit)) : Inv n (upd S i x) M G := by
  have hT := upd_term (S := S) (i := i) ht
  have key : ∀ {P : Nat → Sv → Prop}, P i x → (∀ j, j < n → P j (S j)) → ∀ j, j < n → P j (upd S i x j) := fun {P} hx hS j hj => by
    by_cases e : j = i
    · rw [e, upd_same]; exact hx
    · rw [upd_ne _ _ e]; exact hS j hj
  refine ⟨key (P := fun j x => x.Good ∧ x.id = j ∧ x.n = n) hg h.good, key (P := fun _ x => G.Sound x.log) (by rw [hlog]; exact h.snd i hi) h.snd, fun t j c hv => ?_, h.vc,
    key (P := fun j x => x.vote = -1 → G.V x.term j = none) h0 h.v0, key (P := fun j x => ∀ c : Nat, x.vote = c → G.V x.term j = some c) h1 h.v1, h.ev,
    key (P := fun i x => x.role = 1 → G.V x.term i = some i ∧ G.VL x.term i = x.log ∧ G.W x.term ≠ some i ∧ ∀ k, k < 7 → x.voters.testBit k = true → G.V x.term k = some i) hc h.cand,
    key (P := fun i x => x.role = 2 → G.W x.term = some i ∧ G.LL x.term = x.log ∧ ∀ k, k < n → k ≠ i → x.mt.getD k 0 ≤ G.K x.term k) hl h.lead, fun t c hw => ?_, fun t j hk => ?_, ?_, h.h2,
    key (P := fun _ x => G.CP n x.term (x.log.take x.commit)) hcm h.cm, h.ms⟩
  · obtain ⟨a, b, c1, d, e, f⟩ := h.vt t j c hv
    exact ⟨a, b, c1, Int.le_trans d (hT j), Int.le_trans e (hT c), f⟩
  · obtain ⟨a, b, c1, d⟩ := h.w t c hw
    exact ⟨a, b, Int.le_trans c1 (hT c), d⟩
  · obtain ⟨a, b, c1⟩ := h.k t j hk
    exact ⟨a, Int.le_trans b (hT j), c1⟩
  · intro t j k hj ha h0 hw
    have hlg : (upd S i x j).log = (S j).log := by
      by_cases e : j = i
      · rw [e, upd_same]; exact hlog
      · rw [upd_ne _ _ e]
    rw [hlg]
    rcases h.h1 t j k hj ha h0 hw with a | ⟨u, a, b, c⟩
    · exact .inl a
    · exact .inr ⟨u, a, Int.le_trans b (hT j), c⟩
/-- Messages are sent. -/
theorem Inv.sent (h : Inv n S M G) {M' : Mg → Prop} (hM : ∀ m, M' m → M m ∨ G.MOk n m) : Inv n S M' G :=
  ⟨h.good, h.snd, h.vt, h.vc, h.v0, h.v1, h.ev, h.cand, h.lead, h.w, h.k, h.h1, h.h2, h.cm, fun m hm => (hM m hm).elim (h.ms m) id⟩
def Gh.vote (G : Gh) (t : Int) (i c : Nat) (L : List Ent) : Gh :=
  { G with V := fun u j => if u = t ∧ j = i then some c else G.V u j, VL := fun u j => if u = t ∧ j = i then L else G.VL u j, E := fun u j => if u = t ∧ j = i then G.W t = none else G.E u j }
theorem Gh.le_vote (h : Inv n S M G) {t : Int} {i c : Nat} {L : List Ent} (hv : G.V t i = none) : G.Le (G.vote t i c L) := by
  refine ⟨fun u j d hd => ?_, fun u d hd => ⟨hd, List.prefix_refl _, (h.w u d hd).2.2.2.2.1⟩, fun _ _ => Nat.le_refl _⟩
  have hne : ¬ (u = t ∧ j = i) := fun e => by rw [e.1, e.2, hv] at hd; cases hd
  exact ⟨by show (if _ then _ else _) = _; rw [if_neg hne]; exact hd, by show (if _ then _ else _) = _; rw [if_neg hne], fun he => by show (if _ then _ else _); rw [if_neg hne]; exact he⟩
/-- A server votes. -/
theorem Inv.vote (h : Inv n S M G) {i c : Nat} (hi : i < n) (hc : c < n) {x : Sv} (hg : x.Good ∧ x.id = i ∧ x.n = n) (hlog : x.log = (S i).log) (ht : (S i).term ≤ x.term) (ht1 : 1 ≤ x.term)
    (hv : G.V x.term i = none) (hx : x.vote = c)
    (hk : (c = i ∧ (x.role = 1 ∧ x.voters = 2 ^ i) ∧ ∀ k, termAt x.log k < x.term) ∨ (c ≠ i ∧ G.V x.term c = some c ∧ Gh.UpTo (G.VL x.term c) x.log ∧ x.role = 0))
    (hcm : G.CP n x.term (x.log.take x.commit)) : Inv n (upd S i x) M (G.vote x.term i c x.log) := by
  have hT := upd_term (S := S) (i := i) ht
  have hle := Gh.le_vote h (c := c) (L := x.log) hv
  have hnw : G.W x.term ≠ some i := fun e => by have := (h.w _ _ e).2.2.2.2.1; rw [hv] at this; cases this
  have hV : ∀ u j, (G.vote x.term i c x.log).V u j = if u = x.term ∧ j = i then some c else G.V u j := fun _ _ => rfl
  have hVL : ∀ u j, (G.vote x.term i c x.log).VL u j = if u = x.term ∧ j = i then x.log else G.VL u j := fun _ _ => rfl
  have hE : ∀ u j, (G.vote x.term i c x.log).E u j = if u = x.term ∧ j = i then G.W x.term = none else G.E u j := fun _ _ => rfl
  have hsx : G.Sound x.log := by rw [hlog]; exact h.snd i hi
  generalize hG' : G.vote x.term i c x.log = G' at *
  have hW : G'.W = G.W := by rw [← hG']; rfl
  have hLL : G'.LL = G.LL := by rw [← hG']; rfl
  have hK : G'.K = G.K := by rw [← hG']; rfl
  have hA : ∀ t j k, G'.Ack t j k ↔ G.Ack t j k := fun t j k => by unfold Gh.Ack; rw [hW, hLL, hK]
  clear hG'
  have hBL : ∀ u, G.W u ≠ none → G'.BL u = G.BL u := fun u hu => hle.bl hu
  refine ⟨fun j hj => ?_, fun j hj => ?_, fun t j d hd => ?_, fun t d hd k => ?_, fun j hj he => ?_, fun j hj d he => ?_, fun t hw j d hd => ?_, fun j hj hr => ?_, fun j hj hr => ?_, fun t d hw => ?_, fun t j hk0 => ?_, fun t j k hj ha h0 hw => ?_, fun t u j k d hd he htu ha h0 hw => ?_, fun j hj => ?_, fun m hm => hle.mok (h.ms m hm)⟩
  · by_cases e : j = i
    · rw [e, upd_same]; exact hg
    · rw [upd_ne _ _ e]; exact h.good j hj
  · by_cases e : j = i
    · rw [e, upd_same]; exact hle.sound hsx
    · rw [upd_ne _ _ e]; exact hle.sound (h.snd j hj)
  · rw [hV] at hd
    by_cases e : t = x.term ∧ j = i
    · rw [if_pos e] at hd
      have hd := Option.some.inj hd
      subst hd
      obtain ⟨rfl, rfl⟩ := e
      refine ⟨ht1, hi, hc, by rw [upd_same]; exact Int.le_refl _, ?_, ?_, by rw [hVL, if_pos ⟨rfl, rfl⟩]; exact hle.sound hsx, ?_⟩
      · rcases hk with ⟨rfl, _⟩ | ⟨hne, h2, _⟩
        · rw [upd_same]; exact Int.le_refl _
        · exact Int.le_trans (h.vt _ _ _ h2).2.2.2.1 (hT c)
      · rcases hk with ⟨rfl, _⟩ | ⟨hne, h2, _⟩
        · rw [hV, if_pos ⟨rfl, rfl⟩]
        · rw [hV, if_neg (fun e => hne e.2)]; exact h2
      · rw [hVL x.term j, if_pos ⟨rfl, rfl⟩]
        rcases hk with ⟨rfl, _⟩ | ⟨hne, _, h3, _⟩
        · rw [hVL, if_pos ⟨rfl, rfl⟩]; exact .inr ⟨rfl, Nat.le_refl _⟩
        · rw [hVL, if_neg (fun e => hne e.2)]; exact h3
    · rw [if_neg e] at hd
      obtain ⟨a, b, c1, d1, e1, f, g, k⟩ := h.vt t j d hd
      have e2 := (hle.v _ _ _ hd).2.1
      have e3 := (hle.v _ _ _ f)
      exact ⟨a, b, c1, Int.le_trans d1 (hT j), Int.le_trans e1 (hT d), e3.1, by rw [e2]; exact hle.sound g, by rw [e2, e3.2.1]; exact k⟩
  · rw [hV] at hd
    by_cases e : t = x.term ∧ d = i
    · rw [if_pos e] at hd
      have hd := Option.some.inj hd
      rw [hVL, if_pos e]
      rcases hk with ⟨_, _, h3⟩ | ⟨hne, _⟩
      · rw [e.1]; exact h3 k
      · exact absurd (hd.trans e.2) hne
    · rw [if_neg e] at hd
      rw [hVL, if_neg e]
      exact h.vc t d hd k
  · by_cases e : j = i
    · rw [e, upd_same, hx] at he; omega
    · rw [upd_ne _ _ e] at he ⊢
      rw [hV, if_neg (fun a => e a.2)]; exact h.v0 j hj he
  · by_cases e : j = i
    · subst e
      rw [upd_same] at he ⊢
      rw [hV, if_pos ⟨rfl, rfl⟩]
      rw [hx] at he
      exact congrArg some (Int.ofNat_inj.1 he)
    · rw [upd_ne _ _ e] at he ⊢
      rw [hV, if_neg (fun a => e a.2)]; exact h.v1 j hj d he
  · rw [hW] at hw
    rw [hV] at hd
    rw [hE]
    by_cases e : t = x.term ∧ j = i
    · rw [if_pos e, ← e.1]; exact hw
    · rw [if_neg e] at hd ⊢
      exact h.ev t hw j d hd
  · by_cases e : j = i
    · subst e
      rw [upd_same] at hr ⊢
      rcases hk with ⟨rfl, ⟨_, h2⟩, _⟩ | ⟨_, _, _, h3⟩
      · refine ⟨by rw [hV, if_pos ⟨rfl, rfl⟩], by rw [hVL, if_pos ⟨rfl, rfl⟩], by rw [hW]; exact hnw, fun k hk7 hb => ?_⟩
        rw [h2, Nat.testBit_two_pow] at hb
        have hb : c = k := by simpa using hb
        rw [hV, if_pos ⟨rfl, hb.symm⟩]
      · rw [h3] at hr; cases hr
    · rw [upd_ne _ _ e] at hr ⊢
      obtain ⟨a, b, c1, d⟩ := h.cand j hj hr
      obtain ⟨p, q, _⟩ := hle.v _ _ _ a
      exact ⟨p, by rw [q]; exact b, by rw [hW]; exact c1, fun k h7 hb => (hle.v _ _ _ (d k h7 hb)).1⟩
  · by_cases e : j = i
    · subst e
      rw [upd_same] at hr
      rcases hk with ⟨_, ⟨h2, _⟩, _⟩ | ⟨_, _, _, h3⟩
      · rw [h2] at hr; cases hr
      · rw [h3] at hr; cases hr
    · rw [upd_ne _ _ e] at hr ⊢
      rw [hW, hLL, hK]
      exact h.lead j hj hr
  · rw [hW] at hw
    obtain ⟨a, b, c1, d1, e1, f, g⟩ := h.w t d hw
    obtain ⟨p, q, _⟩ := hle.v _ _ _ e1
    refine ⟨a, b, Int.le_trans c1 (hT d), d1.mono (fun j _ hj => ⟨(hle.v _ _ _ hj.1).1, (hle.v _ _ _ hj.1).2.2 hj.2⟩), p, by rw [hLL]; exact hle.sound f, by rw [hLL, q]; exact g⟩
  · rw [hK] at hk0 ⊢
    rw [hW, hLL]
    obtain ⟨a, b, c1⟩ := h.k t j hk0
    exact ⟨a, Int.le_trans b (hT j), c1⟩
  · rw [hA] at ha
    rw [hW] at hw
    have hlg : (upd S i x j).log = (S j).log := by
      by_cases e : j = i
      · rw [e, upd_same]; exact hlog
      · rw [upd_ne _ _ e]
    rw [hLL, hlg]
    rcases h.h1 t j k hj ha h0 hw with a | ⟨u, a, b, c1, d⟩
    · exact .inl a
    · exact .inr ⟨u, a, Int.le_trans b (hT j), by rw [hW]; exact c1, by rw [hBL u c1]; exact d⟩
  · rw [hA] at ha
    rw [hW] at hw
    rw [hLL]
    rw [hV] at hd
    rw [hE] at he
    rw [hVL]
    by_cases e : u = x.term ∧ j = i
    · rw [if_pos e] at hd he ⊢
      rw [hlog]
      rw [e.2] at ha
      rcases h.h1 t i k hi ha h0 hw with a | ⟨y, a, b, c1, d1⟩
      · exact .inl a
      · refine .inr ⟨y, a, ?_, by rw [hW]; exact c1, by rw [hBL y c1]; exact d1⟩
        have h1 : y ≠ x.term := fun e => c1 (by rw [e]; exact he)
        rw [e.1]; omega
    · rw [if_neg e] at hd he ⊢
      rcases h.h2 t u j k d hd he htu ha h0 hw with a | ⟨y, a, b, c1, d1⟩
      · exact .inl a
      · exact .inr ⟨y, a, b, by rw [hW]; exact c1, by rw [hBL y c1]; exact d1⟩
  · by_cases e : j = i
    · rw [e, upd_same]; exact hle.cp hcm
    · rw [upd_ne _ _ e]; exact hle.cp (h.cm j hj)

def Gh.elect (G : Gh) (t : Int) (i : Nat) (L : List Ent) : Gh :=
  { G with W := fun u => if u = t then some i else G.W u, LL := fun u => if u = t then L else G.LL u }
/-- A server leads. -/
theorem Inv.elect (h : Inv n S M G) {i : Nat} (hi : i < n) {x : Sv} {o : List Ent} (hg : x.Good ∧ x.id = i ∧ x.n = n) (hlog : x.log = (S i).log ++ o) (ho : ∀ e ∈ o, e.term = x.term) (ht : x.term = (S i).term)
    (hvo : x.vote = (S i).vote) (hr : (S i).role = 1) (hx : x.role = 2) (hmt : ∀ k, k < n → k ≠ i → x.mt.getD k 0 = 0) (hcm : x.commit = (S i).commit) (hq : Quo n (fun j => G.V x.term j = some i)) :
    Inv n (upd S i x) M (G.elect x.term i x.log) := by
  obtain ⟨hc1, hc2, hc3, _⟩ := h.cand i hi hr
  rw [← ht] at hc1 hc2 hc3
  have hnw : G.W x.term = none := by
    cases hw : G.W x.term with
    | none => rfl
    | some c =>
      obtain ⟨j, _, h1, h2, _⟩ := hq.meet (h.w _ _ hw).2.2.2.1
      rw [h1] at h2
      rw [hw] at hc3
      exact absurd h2.symm hc3
  have hT := upd_term (S := S) (i := i) (x := x) (by omega)
  have ht1 := (h.vt _ _ _ hc1).1
  have hW : ∀ u, (G.elect x.term i x.log).W u = if u = x.term then some i else G.W u := fun _ => rfl
  have hLL : ∀ u, (G.elect x.term i x.log).LL u = if u = x.term then x.log else G.LL u := fun _ => rfl
  have hle : G.Le (G.elect x.term i x.log) := by
    refine ⟨fun u j d hd => ⟨hd, rfl, id⟩, fun u d hd => ?_, fun _ _ => Nat.le_refl _⟩
    have hne : u ≠ x.term := fun e => by rw [e, hnw] at hd; cases hd
    exact ⟨by rw [hW, if_neg hne]; exact hd, by rw [hLL, if_neg hne]; exact List.prefix_refl _, (h.w u d hd).2.2.2.2.1⟩
  generalize hG' : G.elect x.term i x.log = G' at *
  have hV : G'.V = G.V := by rw [← hG']; rfl
  have hVL : G'.VL = G.VL := by rw [← hG']; rfl
  have hE : G'.E = G.E := by rw [← hG']; rfl
  have hK : G'.K = G.K := by rw [← hG']; rfl
  clear hG'
  have hBL : ∀ u, G.W u ≠ none → G'.BL u = G.BL u := fun u hu => hle.bl hu
  have hne : ∀ u, G.W u ≠ none → u ≠ x.term := fun u hu e => hu (by rw [e]; exact hnw)
  have hA : ∀ t j k, t ≠ x.term → (G'.Ack t j k ↔ G.Ack t j k) := fun t j k e => by unfold Gh.Ack; rw [hW, hLL, hK, if_neg e, if_neg e]
  have hpre : (S i).log <+: x.log := by rw [hlog]; exact List.prefix_append _ _
  have hsx : G'.Sound x.log := fun k h0 hk => by
    rcases Nat.lt_or_ge (S i).log.length k with h1 | h1
    · have h2 : termAt x.log k = x.term := by
        rw [hlog] at hk ⊢
        rw [termAt_append h1]
        obtain ⟨j, hj⟩ : ∃ j, k - (S i).log.length = j + 1 := ⟨k - (S i).log.length - 1, by omega⟩
        rw [List.length_append] at hk
        rw [hj, termAt_succ, List.getElem?_eq_getElem (by omega)]
        exact ho _ (List.getElem_mem _)
      rw [h2, hW, hLL, if_pos rfl, if_pos rfl]
      exact ⟨(fun e => by cases e), List.take_prefix _ _⟩
    · have h2 := hle.sound (h.snd i hi) k h0 h1
      rw [← termAt_pre hpre h1, ← pre_eq hpre h1]
      exact h2
  refine ⟨fun j hj => ?_, fun j hj => ?_, fun t j d hd => ?_, fun t d hd k => ?_, fun j hj he => ?_, fun j hj d he => ?_, fun t hw j d hd => ?_, fun j hj hr => ?_, fun j hj hr => ?_, fun t d hw => ?_, fun t j hk0 => ?_, fun t j k hj ha h0 hw => ?_, fun t u j k d hd he htu ha h0 hw => ?_, fun j hj => ?_, fun m hm => hle.mok (h.ms m hm)⟩
  · by_cases e : j = i
    · rw [e, upd_same]; exact hg
    · rw [upd_ne _ _ e]; exact h.good j hj
  · by_cases e : j = i
    · rw [e, upd_same]; exact hsx
    · rw [upd_ne _ _ e]; exact hle.sound (h.snd j hj)
  · rw [hV] at hd ⊢
    obtain ⟨a, b, c1, d1, e1, f, g, k⟩ := h.vt t j d hd
    exact ⟨a, b, c1, Int.le_trans d1 (hT j), Int.le_trans e1 (hT d), f, by rw [hVL]; exact hle.sound g, by rw [hVL]; exact k⟩
  · rw [hV] at hd
    rw [hVL]
    exact h.vc t d hd k
  · rw [hV]
    by_cases e : j = i
    · subst e
      rw [upd_same] at he ⊢
      rw [hvo] at he
      rw [ht]; exact h.v0 j hi he
    · rw [upd_ne _ _ e] at he ⊢
      exact h.v0 j hj he
  · rw [hV]
    by_cases e : j = i
    · subst e
      rw [upd_same] at he ⊢
      rw [hvo] at he
      rw [ht]; exact h.v1 j hi d he
    · rw [upd_ne _ _ e] at he ⊢
      exact h.v1 j hj d he
  · rw [hW] at hw
    rw [hV] at hd
    rw [hE]
    by_cases e : t = x.term
    · rw [if_pos e] at hw; cases hw
    · rw [if_neg e] at hw; exact h.ev t hw j d hd
  · by_cases e : j = i
    · rw [e, upd_same, hx] at hr; cases hr
    · rw [upd_ne _ _ e] at hr ⊢
      obtain ⟨a, b, c1, d⟩ := h.cand j hj hr
      rw [hV, hVL, hW]
      refine ⟨a, b, ?_, d⟩
      by_cases e2 : (S j).term = x.term
      · rw [if_pos e2]; exact fun e3 => e (Option.some.inj e3).symm
      · rw [if_neg e2]; exact c1
  · by_cases e : j = i
    · subst e
      rw [upd_same, hW, hLL, if_pos rfl, if_pos rfl]
      exact ⟨rfl, rfl, fun k hk hkj => by rw [hmt k hk hkj]; exact Nat.zero_le _⟩
    · rw [upd_ne _ _ e] at hr ⊢
      obtain ⟨a, b, c1⟩ := h.lead j hj hr
      have h1 := hne (S j).term (by rw [a]; exact fun e => by cases e)
      rw [hW, hLL, if_neg h1, if_neg h1, hK]
      exact ⟨a, b, c1⟩
  · rw [hW] at hw
    by_cases e : t = x.term
    · rw [if_pos e] at hw
      have hw := Option.some.inj hw
      subst hw
      subst e
      rw [hV, hE, hVL, hLL, if_pos rfl, upd_same]
      exact ⟨ht1, hi, Int.le_refl _, hq.mono (fun j _ hj => ⟨hj, h.ev _ hnw j _ hj⟩), hc1, hsx, o, by rw [hc2]; exact hlog, ho⟩
    · rw [if_neg e] at hw
      obtain ⟨a, b, c1, d1, e1, f, g⟩ := h.w t d hw
      rw [hV, hE, hVL, hLL, if_neg e]
      exact ⟨a, b, Int.le_trans c1 (hT d), d1, e1, hle.sound f, g⟩
  · rw [hK] at hk0 ⊢
    obtain ⟨a, b, c1, d⟩ := h.k t j hk0
    have h1 := hne t c1
    rw [hW, hLL, if_neg h1, if_neg h1]
    exact ⟨a, Int.le_trans b (hT j), c1, d⟩
  · have hpl : ∀ {Y : List Ent}, Y <+: (S j).log → Y <+: (upd S i x j).log := fun {Y} hY => by
      by_cases e : j = i
      · rw [e, upd_same]; rw [e] at hY; exact hY.trans hpre
      · rw [upd_ne _ _ e]; exact hY
    by_cases e : t = x.term
    · subst e
      rw [hLL, if_pos rfl]
      rcases ha with ⟨h1, h2⟩ | h1
      · rw [hW, if_pos rfl] at h1
        have h1 := Option.some.inj h1
        subst h1
        rw [upd_same]
        exact .inl (List.take_prefix _ _)
      · rw [hK] at h1
        exact absurd hnw (h.k _ j (by omega)).2.2.1
    · rw [hA t j k e] at ha
      rw [hW, if_neg e] at hw
      rw [hLL, if_neg e]
      rcases h.h1 t j k hj ha h0 hw with a | ⟨u, a, b, c1, d⟩
      · exact .inl (hpl a)
      · refine .inr ⟨u, a, Int.le_trans b (hT j), by rw [hW, if_neg (hne u c1)]; exact c1, by rw [hBL u c1]; exact d⟩
  · rw [hV] at hd
    rw [hE] at he
    rw [hVL]
    by_cases e : t = x.term
    · subst e
      rcases ha with ⟨h1, h2⟩ | h1
      · rw [hW, if_pos rfl] at h1
        have h1 := Option.some.inj h1
        subst h1
        have := (h.vt u i d hd).2.2.2.1
        omega
      · rw [hK] at h1
        exact absurd hnw (h.k _ j (by omega)).2.2.1
    · rw [hA t j k e] at ha
      rw [hW, if_neg e] at hw
      rw [hLL, if_neg e]
      rcases h.h2 t u j k d hd he htu ha h0 hw with a | ⟨y, a, b, c1, d1⟩
      · exact .inl a
      · refine .inr ⟨y, a, b, by rw [hW, if_neg (hne y c1)]; exact c1, by rw [hBL y c1]; exact d1⟩
  · by_cases e : j = i
    · subst e
      rw [upd_same, hcm, ht]
      have h1 := h.cm j hi
      have h2 : x.log.take (S j).commit = (S j).log.take (S j).commit := by
        rw [hlog, List.take_append_of_le_length (h.good j hi).1.com]
      rw [h2]
      exact hle.cp h1
    · rw [upd_ne _ _ e]; exact hle.cp (h.cm j hj)
def Gh.grow (G : Gh) (t : Int) (L : List Ent) : Gh := { G with LL := fun u => if u = t then L else G.LL u }
/-- A leader's log grows. -/
theorem Inv.grow (h : Inv n S M G) {i : Nat} (hi : i < n) {x : Sv} {o : List Ent} (hg : x.Good ∧ x.id = i ∧ x.n = n) (hlog : x.log = (S i).log ++ o) (ho : ∀ e ∈ o, e.term = x.term) (ht : x.term = (S i).term)
    (hvo : x.vote = (S i).vote) (hr : (S i).role = 2) (hx : x.role = 2) (hmt : x.mt = (S i).mt) (hcm : x.commit = (S i).commit) : Inv n (upd S i x) M (G.grow x.term x.log) := by
  obtain ⟨hw1, hl1, hm1⟩ := h.lead i hi hr
  rw [← ht] at hw1 hl1 hm1
  have hT := upd_term (S := S) (i := i) (x := x) (by omega)
  have hpre : (S i).log <+: x.log := by rw [hlog]; exact List.prefix_append _ _
  have hLL : ∀ u, (G.grow x.term x.log).LL u = if u = x.term then x.log else G.LL u := fun _ => rfl
  have hle : G.Le (G.grow x.term x.log) := by
    refine ⟨fun u j d hd => ⟨hd, rfl, id⟩, fun u d hd => ⟨hd, ?_, (h.w u d hd).2.2.2.2.1⟩, fun _ _ => Nat.le_refl _⟩
    rw [hLL]
    split
    · rename_i e; rw [e, hl1]; exact hpre
    · exact List.prefix_refl _
  generalize hG' : G.grow x.term x.log = G' at *
  have hV : G'.V = G.V := by rw [← hG']; rfl
  have hVL : G'.VL = G.VL := by rw [← hG']; rfl
  have hE : G'.E = G.E := by rw [← hG']; rfl
  have hK : G'.K = G.K := by rw [← hG']; rfl
  have hW : G'.W = G.W := by rw [← hG']; rfl
  clear hG'
  have hBL : ∀ u, G.W u ≠ none → G'.BL u = G.BL u := fun u hu => hle.bl hu
  have hnw : G.W x.term ≠ none := by rw [hw1]; exact fun e => by cases e
  have hsx : G'.Sound x.log := fun k h0 hk => by
    rcases Nat.lt_or_ge (S i).log.length k with h1 | h1
    · have h2 : termAt x.log k = x.term := by
        rw [hlog] at hk ⊢
        rw [termAt_append h1]
        obtain ⟨j, hj⟩ : ∃ j, k - (S i).log.length = j + 1 := ⟨k - (S i).log.length - 1, by omega⟩
        rw [List.length_append] at hk
        rw [hj, termAt_succ, List.getElem?_eq_getElem (by omega)]
        exact ho _ (List.getElem_mem _)
      rw [h2, hW, hLL, if_pos rfl]
      exact ⟨hnw, List.take_prefix _ _⟩
    · have h2 := hle.sound (h.snd i hi) k h0 h1
      rw [← termAt_pre hpre h1, ← pre_eq hpre h1]
      exact h2
  have hll : ∀ t k, G.W t ≠ none → k ≤ (G.LL t).length → (G'.LL t).take k = (G.LL t).take k := fun t k hw hk => (pre_eq (hle.ll hw).2 hk).symm
  refine ⟨fun j hj => ?_, fun j hj => ?_, fun t j d hd => ?_, fun t d hd k => ?_, fun j hj he => ?_, fun j hj d he => ?_, fun t hw j d hd => ?_, fun j hj hr => ?_, fun j hj hr => ?_, fun t d hw => ?_, fun t j hk0 => ?_, fun t j k hj ha h0 hw => ?_, fun t u j k d hd he htu ha h0 hw => ?_, fun j hj => ?_, fun m hm => hle.mok (h.ms m hm)⟩
  · by_cases e : j = i
    · rw [e, upd_same]; exact hg
    · rw [upd_ne _ _ e]; exact h.good j hj
  · by_cases e : j = i
    · rw [e, upd_same]; exact hsx
    · rw [upd_ne _ _ e]; exact hle.sound (h.snd j hj)
  · rw [hV] at hd ⊢
    obtain ⟨a, b, c1, d1, e1, f, g, k⟩ := h.vt t j d hd
    exact ⟨a, b, c1, Int.le_trans d1 (hT j), Int.le_trans e1 (hT d), f, by rw [hVL]; exact hle.sound g, by rw [hVL]; exact k⟩
  · rw [hV] at hd
    rw [hVL]
    exact h.vc t d hd k
  · rw [hV]
    by_cases e : j = i
    · subst e
      rw [upd_same] at he ⊢
      rw [hvo] at he
      rw [ht]; exact h.v0 j hi he
    · rw [upd_ne _ _ e] at he ⊢
      exact h.v0 j hj he
  · rw [hV]
    by_cases e : j = i
    · subst e
      rw [upd_same] at he ⊢
      rw [hvo] at he
      rw [ht]; exact h.v1 j hi d he
    · rw [upd_ne _ _ e] at he ⊢
      exact h.v1 j hj d he
  · rw [hW] at hw
    rw [hV] at hd
    rw [hE]
    exact h.ev t hw j d hd
  · by_cases e : j = i
    · rw [e, upd_same, hx] at hr; cases hr
    · rw [upd_ne _ _ e] at hr ⊢
      rw [hV, hVL, hW]
      exact h.cand j hj hr
  · by_cases e : j = i
    · subst e
      rw [upd_same, hW, hLL, if_pos rfl, hK, hmt]
      exact ⟨hw1, rfl, hm1⟩
    · rw [upd_ne _ _ e] at hr ⊢
      obtain ⟨a, b, c1⟩ := h.lead j hj hr
      have h1 : (S j).term ≠ x.term := fun e2 => by rw [e2, hw1] at a; exact e (Option.some.inj a).symm
      rw [hW, hLL, if_neg h1, hK]
      exact ⟨a, b, c1⟩
  · rw [hW] at hw
    obtain ⟨a, b, c1, d1, e1, f, g⟩ := h.w t d hw
    rw [hV, hE, hVL]
    refine ⟨a, b, Int.le_trans c1 (hT d), d1, e1, ?_, ?_⟩
    · rw [hLL]
      split
      · exact hsx
      · exact hle.sound f
    · rw [hLL]
      split
      · rename_i e
        obtain ⟨o', h1, h2⟩ := g
        refine ⟨o' ++ o, ?_, fun y hy => ?_⟩
        · rw [hlog, ← hl1, ← e, h1, List.append_assoc]
        · rcases List.mem_append.1 hy with hy | hy
          · exact h2 y hy
          · rw [e]; exact ho y hy
      · exact g
  · rw [hK] at hk0 ⊢
    obtain ⟨a, b, c1, d⟩ := h.k t j hk0
    rw [hW]
    exact ⟨a, Int.le_trans b (hT j), c1, Nat.le_trans d (pre_len (hle.ll c1).2)⟩
  · rw [hW] at hw
    have hpl : ∀ {Y : List Ent}, Y <+: (S j).log → Y <+: (upd S i x j).log := fun {Y} hY => by
      by_cases e : j = i
      · rw [e, upd_same]; rw [e] at hY; exact hY.trans hpre
      · rw [upd_ne _ _ e]; exact hY
    by_cases e : t = x.term ∧ j = i
    · obtain ⟨rfl, rfl⟩ := e
      rw [upd_same, hLL, if_pos rfl]
      exact .inl (List.take_prefix _ _)
    · have hA : G.Ack t j k := by
        rcases ha with ⟨h1, h2⟩ | h1
        · rw [hW] at h1
          have h3 : t ≠ x.term := fun e2 => e ⟨e2, by rw [e2, hw1] at h1; exact (Option.some.inj h1).symm⟩
          rw [hLL, if_neg h3] at h2
          exact .inl ⟨h1, h2⟩
        · rw [hK] at h1; exact .inr h1
      rw [hll t k hw (h.ack_le hA)]
      rcases h.h1 t j k hj hA h0 hw with a | ⟨u, a, b, c1, d⟩
      · exact .inl (hpl a)
      · exact .inr ⟨u, a, Int.le_trans b (hT j), by rw [hW]; exact c1, by rw [hBL u c1]; exact d⟩
  · rw [hV] at hd
    rw [hE] at he
    rw [hW] at hw
    rw [hVL]
    have hA : G.Ack t j k := by
      rcases ha with ⟨h1, h2⟩ | h1
      · rw [hW] at h1
        have h3 : t ≠ x.term := fun e2 => by
          rw [e2, hw1] at h1
          have h4 := Option.some.inj h1
          subst h4
          have := (h.vt u i d hd).2.2.2.1
          omega
        rw [hLL, if_neg h3] at h2
        exact .inl ⟨h1, h2⟩
      · rw [hK] at h1; exact .inr h1
    rw [hll t k hw (h.ack_le hA)]
    rcases h.h2 t u j k d hd he htu hA h0 hw with a | ⟨y, a, b, c1, d1⟩
    · exact .inl a
    · exact .inr ⟨y, a, b, by rw [hW]; exact c1, by rw [hBL y c1]; exact d1⟩
  · by_cases e : j = i
    · subst e
      rw [upd_same, hcm, ht]
      have h2 : x.log.take (S j).commit = (S j).log.take (S j).commit := by
        rw [hlog, List.take_append_of_le_length (h.good j hi).1.com]
      rw [h2]
      exact hle.cp (h.cm j hi)
    · rw [upd_ne _ _ e]; exact hle.cp (h.cm j hj)
def Gh.ackd (G : Gh) (t : Int) (i q : Nat) : Gh := { G with K := fun u j => if u = t ∧ j = i then max (G.K u j) q else G.K u j }
/-- A follower has taken entries. -/
theorem Inv.acked (h : Inv n S M G) {i c q : Nat} (hi : i < n) {x : Sv} (hg : x.Good ∧ x.id = i ∧ x.n = n) (ht : x.term = (S i).term) (hvo : x.vote = (S i).vote) (hx : x.role = 0)
    (hw : G.W x.term = some c) (hci : c ≠ i) (hq : q ≤ (G.LL x.term).length) (hpq : (G.LL x.term).take q <+: x.log) (hsx : G.Sound x.log)
    (hret : ∀ t k, G.Ack t i k → 0 < k → G.W t ≠ none → (G.LL t).take k <+: x.log ∨ ∃ u, t < u ∧ u ≤ x.term ∧ G.W u ≠ none ∧ ¬ (G.LL t).take k <+: G.BL u)
    (hcm : G.CP n x.term (x.log.take x.commit)) : Inv n (upd S i x) M (G.ackd x.term i q) := by
  have hT := upd_term (S := S) (i := i) (x := x) (by omega)
  have hKK : ∀ u j, (G.ackd x.term i q).K u j = if u = x.term ∧ j = i then max (G.K u j) q else G.K u j := fun _ _ => rfl
  have hle : G.Le (G.ackd x.term i q) := by
    refine ⟨fun u j d hd => ⟨hd, rfl, id⟩, fun u d hd => ⟨hd, List.prefix_refl _, (h.w u d hd).2.2.2.2.1⟩, fun u j => ?_⟩
    rw [hKK]; split <;> omega
  generalize hG' : G.ackd x.term i q = G' at *
  have hV : G'.V = G.V := by rw [← hG']; rfl
  have hVL : G'.VL = G.VL := by rw [← hG']; rfl
  have hE : G'.E = G.E := by rw [← hG']; rfl
  have hW : G'.W = G.W := by rw [← hG']; rfl
  have hLL : G'.LL = G.LL := by rw [← hG']; rfl
  clear hG'
  have hBL : ∀ u, G.W u ≠ none → G'.BL u = G.BL u := fun u hu => hle.bl hu
  have hA : ∀ {t j k}, G'.Ack t j k → (t = x.term ∧ j = i ∧ k ≤ q) ∨ G.Ack t j k := fun {t j k} ha => by
    rcases ha with ⟨h1, h2⟩ | h1
    · rw [hW] at h1; rw [hLL] at h2; exact .inr (.inl ⟨h1, h2⟩)
    · rw [hKK] at h1
      split at h1
      · rename_i e
        rcases Nat.lt_or_ge q k with h3 | h3
        · exact .inr (.inr (by omega))
        · exact .inl ⟨e.1, e.2, h3⟩
      · exact .inr (.inr h1)
  have hnw : G.W x.term ≠ none := by rw [hw]; exact fun e => by cases e
  refine ⟨fun j hj => ?_, fun j hj => ?_, fun t j d hd => ?_, fun t d hd k => ?_, fun j hj he => ?_, fun j hj d he => ?_, fun t hw j d hd => ?_, fun j hj hr => ?_, fun j hj hr => ?_, fun t d hw => ?_, fun t j hk0 => ?_, fun t j k hj ha h0 hw => ?_, fun t u j k d hd he htu ha h0 hw => ?_, fun j hj => ?_, fun m hm => hle.mok (h.ms m hm)⟩
  · by_cases e : j = i
    · rw [e, upd_same]; exact hg
    · rw [upd_ne _ _ e]; exact h.good j hj
  · by_cases e : j = i
    · rw [e, upd_same]; exact hle.sound hsx
    · rw [upd_ne _ _ e]; exact hle.sound (h.snd j hj)
  · rw [hV] at hd ⊢
    obtain ⟨a, b, c1, d1, e1, f, g, k⟩ := h.vt t j d hd
    exact ⟨a, b, c1, Int.le_trans d1 (hT j), Int.le_trans e1 (hT d), f, by rw [hVL]; exact hle.sound g, by rw [hVL]; exact k⟩
  · rw [hV] at hd
    rw [hVL]
    exact h.vc t d hd k
  · rw [hV]
    by_cases e : j = i
    · subst e
      rw [upd_same] at he ⊢
      rw [hvo] at he
      rw [ht]; exact h.v0 j hi he
    · rw [upd_ne _ _ e] at he ⊢
      exact h.v0 j hj he
  · rw [hV]
    by_cases e : j = i
    · subst e
      rw [upd_same] at he ⊢
      rw [hvo] at he
      rw [ht]; exact h.v1 j hi d he
    · rw [upd_ne _ _ e] at he ⊢
      exact h.v1 j hj d he
  · rw [hW] at hw
    rw [hV] at hd
    rw [hE]
    exact h.ev t hw j d hd
  · by_cases e : j = i
    · rw [e, upd_same, hx] at hr; cases hr
    · rw [upd_ne _ _ e] at hr ⊢
      rw [hV, hVL, hW]
      exact h.cand j hj hr
  · by_cases e : j = i
    · rw [e, upd_same, hx] at hr; cases hr
    · rw [upd_ne _ _ e] at hr ⊢
      obtain ⟨a, b, c1⟩ := h.lead j hj hr
      rw [hW, hLL]
      exact ⟨a, b, fun k hk hkj => Nat.le_trans (c1 k hk hkj) (hle.k _ _)⟩
  · rw [hW] at hw
    obtain ⟨a, b, c1, d1, e1, f, g⟩ := h.w t d hw
    rw [hV, hE, hVL, hLL]
    exact ⟨a, b, Int.le_trans c1 (hT d), d1, e1, hle.sound f, g⟩
  · rw [hW, hLL]
    by_cases e : t = x.term ∧ j = i
    · obtain ⟨rfl, rfl⟩ := e
      refine ⟨hi, by rw [upd_same]; exact Int.le_refl _, hnw, ?_⟩
      rw [hKK, if_pos ⟨rfl, rfl⟩]
      rcases Nat.eq_zero_or_pos (G.K x.term j) with h1 | h1
      · omega
      · have := (h.k _ _ h1).2.2.2; omega
    · rw [hKK, if_neg e] at hk0 ⊢
      obtain ⟨a, b, c1, d⟩ := h.k t j hk0
      exact ⟨a, Int.le_trans b (hT j), c1, d⟩
  · rw [hW] at hw
    rw [hLL]
    by_cases e : j = i
    · subst e
      rw [upd_same]
      rcases hA ha with ⟨rfl, _, h3⟩ | h3
      · refine .inl (List.IsPrefix.trans ?_ hpq)
        have h4 : (G.LL x.term).take k = ((G.LL x.term).take q).take k := by rw [List.take_take, Nat.min_eq_left h3]
        rw [h4]
        exact List.take_prefix _ _
      · rcases hret t k h3 h0 hw with a | ⟨u, a, b, c1, d⟩
        · exact .inl a
        · exact .inr ⟨u, a, b, by rw [hW]; exact c1, by rw [hBL u c1]; exact d⟩
    · rw [upd_ne _ _ e]
      rcases hA ha with ⟨_, h2, _⟩ | h3
      · exact absurd h2 e
      · rcases h.h1 t j k hj h3 h0 hw with a | ⟨u, a, b, c1, d⟩
        · exact .inl a
        · exact .inr ⟨u, a, b, by rw [hW]; exact c1, by rw [hBL u c1]; exact d⟩
  · rw [hV] at hd
    rw [hE] at he
    rw [hW] at hw
    rw [hVL, hLL]
    rcases hA ha with ⟨h2, h3, _⟩ | h3
    · subst h3
      have := (h.vt u j d hd).2.2.2.1
      omega
    · rcases h.h2 t u j k d hd he htu h3 h0 hw with a | ⟨y, a, b, c1, d1⟩
      · exact .inl a
      · exact .inr ⟨y, a, b, by rw [hW]; exact c1, by rw [hBL y c1]; exact d1⟩
  · by_cases e : j = i
    · rw [e, upd_same]; exact hle.cp hcm
    · rw [upd_ne _ _ e]; exact hle.cp (h.cm j hj)
end
section
variable {n : Nat} {S : Nat → Sv} {M : Mg → Prop} {G G' : Gh}

theorem cntP_step {p : Nat → Prop} {m n : Nat} (h : m ≤ n) : cntP p m ≤ cntP p n := by
  induction n with
  | zero => rw [show m = 0 by omega]; exact Nat.le_refl _
  | succ n ih =>
    rcases Nat.lt_or_ge n m with h1 | h1
    · rw [show m = n + 1 by omega]; exact Nat.le_refl _
    · have := ih h1; rw [cntP]; omega
theorem ones_cnt {v : Nat} {p : Nat → Prop} {n : Nat} (h : ∀ k, k < 7 → v.testBit k = true → k < n ∧ p k) : ∀ m, m ≤ 7 → ones v m ≤ cntP p n
  | m, hm => by
    have key : ∀ m, m ≤ 7 → ∃ r, r ≤ n ∧ ones v m ≤ cntP p r ∧ (r ≤ m) := by
      intro m
      induction m with
      | zero => exact fun _ => ⟨0, Nat.zero_le _, Nat.zero_le _, Nat.zero_le _⟩
      | succ m ih =>
        intro hm
        obtain ⟨r, h1, h2, h3⟩ := ih (by omega)
        by_cases hb : v.testBit m = true
        · obtain ⟨h4, h5⟩ := h m (by omega) hb
          refine ⟨m + 1, by omega, ?_, Nat.le_refl _⟩
          rw [ones, if_pos hb, cntP, if_pos h5]
          have := cntP_step (p := p) h3
          omega
        · refine ⟨r, h1, ?_, by omega⟩
          rw [ones, if_neg hb]; omega
    obtain ⟨r, h1, h2, _⟩ := key m hm
    exact Nat.le_trans h2 (cntP_step h1)
theorem have_cnt (S : Sv) (m : Nat) {p : Nat → Prop} (hp : ∀ k, k = S.id ∨ m ≤ S.mt.getD k 0 → p k) : ∀ k, S.have_ m k ≤ cntP p k + if S.id < k then 0 else 1
  | 0 => by rw [Sv.have_, if_neg (by omega)]; exact Nat.le_refl _
  | k + 1 => by
    have ih := have_cnt S m hp k
    rw [Sv.have_, cntP]
    by_cases hk : k = S.id
    · rw [if_neg (fun e => e.1 hk), if_pos (hp k (.inl hk)), if_pos (by omega)]
      rw [if_neg (by omega)] at ih
      omega
    · by_cases hm : m ≤ S.mt.getD k 0
      · rw [if_pos ⟨hk, hm⟩, if_pos (hp k (.inr hm))]
        by_cases h1 : S.id < k
        · rw [if_pos h1] at ih; rw [if_pos (by omega)]; omega
        · rw [if_neg h1] at ih; rw [if_neg (by omega)]; omega
      · rw [if_neg (fun e => hm e.2)]
        have h2 : (if S.id < k then 0 else 1) = (if S.id < k + 1 then 0 else 1) := by
          by_cases h1 : S.id < k
          · rw [if_pos h1, if_pos (by omega)]
          · rw [if_neg h1, if_neg (by omega)]
        rw [h2] at ih
        split <;> omega
theorem agr_cases (S : Sv) : ∀ m, S.agr m = S.commit ∨ (0 < S.agr m ∧ S.agr m ≤ m ∧ termAt S.log (S.agr m) = S.term ∧ S.n < 2 * S.have_ (S.agr m) S.n)
  | 0 => .inl rfl
  | m + 1 => by
    rw [Sv.agr]
    split
    · rename_i h1
      split
      · rename_i h2
        exact .inr ⟨by omega, Nat.le_refl _, h1.2, h2⟩
      · rcases agr_cases S m with h3 | ⟨h3, h4, h5⟩
        · exact .inl h3
        · exact .inr ⟨h3, by omega, h5⟩
    · exact .inl rfl
theorem agr_le' (S : Sv) (h : S.commit ≤ S.log.length) : S.agr S.log.length ≤ S.log.length := by
  rcases agr_cases S S.log.length with h1 | ⟨_, h1, _⟩ <;> omega
theorem upd_self (S : Nat → Sv) (i : Nat) : upd S i (S i) = S := by
  funext j; unfold upd; split
  · rename_i e; rw [e]
  · rfl
theorem upd_upd (S : Nat → Sv) (i : Nat) (x y : Sv) : upd (upd S i x) i y = upd S i y := by
  funext j; unfold upd; split <;> rfl
/-- A leader counts. -/
theorem Inv.agree (h : Inv n S M G) {i : Nat} (hi : i < n) (hr : (S i).role = 2) : Inv n (upd S i (S i).agree) M G := by
  obtain ⟨hg, hid, hn⟩ := h.good i hi
  obtain ⟨hw, hl, hm⟩ := h.lead i hi hr
  have hnw : G.W (S i).term ≠ none := by rw [hw]; exact fun e => by cases e
  refine h.frame hi ⟨hg.agree, hid, hn⟩ rfl (Int.le_refl _) (h.v0 i hi) (h.v1 i hi) (fun e => absurd (e.symm.trans hr) (by decide)) (fun _ => ⟨hw, hl, hm⟩) ?_
  show G.CP n (S i).term ((S i).log.take ((S i).agr (S i).log.length))
  rcases agr_cases (S i) (S i).log.length with h1 | ⟨h1, h2, h3, h4⟩
  · rw [h1]; exact h.cm i hi
  · refine .inr ⟨(S i).term, (S i).agr (S i).log.length, Int.le_refl _, hnw, h1, by rw [hl]; exact h2, by rw [hl]; exact h3, ?_, by rw [hl]; exact List.prefix_refl _⟩
    unfold Quo
    have h5 := have_cnt (S i) ((S i).agr (S i).log.length) (p := fun j => j < n → G.Ack (S i).term j ((S i).agr (S i).log.length)) (fun k hk hkn => by
      rcases hk with hk | hk
      · rw [hid] at hk; subst hk; exact .inl ⟨hw, by rw [hl]; exact h2⟩
      · by_cases e : k = i
        · subst e; exact .inl ⟨hw, by rw [hl]; exact h2⟩
        · exact .inr (Nat.le_trans hk (hm k hkn e))) n
    rw [if_pos (by omega)] at h5
    have h6 := cntP_mono (p := fun j => j < n → G.Ack (S i).term j ((S i).agr (S i).log.length)) (q := fun j => G.Ack (S i).term j ((S i).agr (S i).log.length)) n (fun j hj hp => hp hj)
    rw [hn] at h4
    omega
theorem ks_mem {S : Sv} {k : Nat} (h : k ∈ S.ks) : k < S.n ∧ k ≠ S.id := by
  unfold Sv.ks at h
  rw [List.mem_filter] at h
  exact ⟨List.mem_range.1 h.1, by simpa using h.2⟩
theorem Inv.send (h : Inv n S M G) {i k : Nat} (hi : i < n) (hr : (S i).role = 2) (hk : k < n) : G.MOk n ((S i).send k) := by
  obtain ⟨hg, hid, hn⟩ := h.good i hi
  obtain ⟨hw, hl, hm⟩ := h.lead i hi hr
  have hx := hg.nxm hr k (by omega)
  refine ⟨by show (0 : Int) ≤ (k : Nat); omega, by show ((k : Nat) : Int) < n; omega, fun e => absurd (show (3 : Nat) = 1 from e) (by decide), fun e => absurd (show (3 : Nat) = 2 from e) (by decide), fun _ => ?_, fun e => absurd (show (3 : Nat) = 4 from e) (by decide)⟩
  have hlen : ((S i).send k).ents.length = min (S i).log.length ((S i).nx.getD k 0 - 1 + 16) - ((S i).nx.getD k 0 - 1) := by
    show (List.drop _ (List.take _ _)).length = _
    rw [List.length_drop, List.length_take]; omega
  refine ⟨i, (S i).nx.getD k 0 - 1, (S i).commit, by show (((S i).id : Nat) : Int) = _; rw [hid], hw, rfl, rfl, ?_, ?_, ?_, ?_, ?_⟩
  · show _ ≤ (G.LL (S i).term).length
    rw [hlen, hl]; omega
  · show _ = termAt (G.LL (S i).term) _
    rw [hl]; rfl
  · show _ = List.drop _ (List.take _ (G.LL (S i).term))
    rw [hlen, hl]
    show List.drop _ (List.take _ _) = _
    congr 2
    omega
  · show _ ≤ (G.LL (S i).term).length
    rw [hl]; exact hg.com
  · show G.CP n (S i).term ((G.LL (S i).term).take _)
    rw [hl]; exact h.cm i hi
theorem Inv.outs (h : Inv n S M G) {i : Nat} (hi : i < n) (hr : (S i).role = 2) : ∀ m ∈ (S i).outs, G.MOk n m := fun m hm => by
  unfold Sv.outs at hm
  obtain ⟨k, hk, rfl⟩ := List.mem_map.1 hm
  have := (ks_mem hk).1
  rw [(h.good i hi).2.2] at this
  exact h.send hi hr this
theorem Inv.asks (h : Inv n S M G) {i : Nat} (hi : i < n) (hr : (S i).role = 1) : ∀ m ∈ (S i).asks, G.MOk n m := fun m hm => by
  unfold Sv.asks at hm
  obtain ⟨k, hk, rfl⟩ := List.mem_map.1 hm
  have hkn := (ks_mem hk).1
  obtain ⟨hg, hid, hn⟩ := h.good i hi
  rw [hn] at hkn
  obtain ⟨h1, h2, _⟩ := h.cand i hi hr
  refine ⟨by show (0 : Int) ≤ (k : Nat); omega, by show ((k : Nat) : Int) < n; omega, fun _ => ⟨i, by show (((S i).id : Nat) : Int) = _; rw [hid], h1, ?_, ?_⟩, fun e => absurd (show (1 : Nat) = 2 from e) (by decide), fun e => absurd (show (1 : Nat) = 3 from e) (by decide), fun e => absurd (show (1 : Nat) = 4 from e) (by decide)⟩
  · show _ = (((G.VL (S i).term i).length : Nat) : Int)
    rw [h2]; rfl
  · show _ = termAt (G.VL (S i).term i) (G.VL (S i).term i).length
    rw [h2]; rfl
theorem setTo_zero {v : Nat} : ∀ (m : Nat) (l : List Nat) (k : Nat), k < m → k < l.length → (setTo v m l).getD k 0 = v
  | m + 1, l, k, h, hl => by
    have hlen : ∀ m, (setTo v m l).length = l.length := fun m => by
      induction m with
      | zero => rfl
      | succ m ih => rw [setTo, List.length_set, ih]
    rw [setTo, List.getD_eq_getElem?_getD, List.getElem?_set]
    by_cases e : m = k
    · rw [if_pos e, if_pos (by rw [hlen]; omega)]; rfl
    · rw [if_neg e, ← List.getD_eq_getElem?_getD]
      exact setTo_zero m l k (by omega) hl
/-- A candidate becomes a leader. -/
theorem Inv.leads (h : Inv n S M G) {i : Nat} (hi : i < n) (hr : (S i).role = 1) (hq : Quo n (fun j => G.V (S i).term j = some i)) :
    ∃ G', G.Le G' ∧ Inv n (upd S i (S i).lead) M G' ∧ ∀ m ∈ (S i).lead.outs, G'.MOk n m := by
  obtain ⟨hg, hid, hn⟩ := h.good i hi
  have ht := (h.vt _ _ _ (h.cand i hi hr).1).1
  have hg2 := hg.lead2 ht
  have hmt : ∀ k, k < n → k ≠ i → (S i).lead2.mt.getD k 0 = 0 := fun k hk _ => by
    have : (S i).lead2.mt = setTo 0 (S i).n (S i).mt := by unfold Sv.lead2; split <;> rfl
    rw [this]
    exact setTo_zero _ _ _ (by omega) (by rw [hg.mtl]; have := hg.n; omega)
  obtain ⟨o, h1, h2⟩ : ∃ o, (S i).lead2.log = (S i).log ++ o ∧ ∀ e ∈ o, e.term = (S i).lead2.term := by
    unfold Sv.lead2
    split
    · exact ⟨[⟨(S i).term, ⟨#[]⟩⟩], rfl, fun e he => by rw [List.mem_singleton] at he; rw [he]; rfl⟩
    · exact ⟨[], (List.append_nil _).symm, fun e he => by cases he⟩
  have e1 : (S i).lead2.term = (S i).term := by unfold Sv.lead2; split <;> rfl
  have e2 : (S i).lead2.vote = (S i).vote := by unfold Sv.lead2; split <;> rfl
  have e3 : (S i).lead2.role = 2 := by unfold Sv.lead2; split <;> rfl
  have e4 : (S i).lead2.commit = (S i).commit := by unfold Sv.lead2; split <;> rfl
  have e5 : (S i).lead2.id = i ∧ (S i).lead2.n = n := ⟨by rw [show (S i).lead2.id = (S i).id by unfold Sv.lead2; split <;> rfl]; exact hid, by rw [show (S i).lead2.n = (S i).n by unfold Sv.lead2; split <;> rfl]; exact hn⟩
  have hE := h.elect hi (x := (S i).lead2) ⟨hg2, e5⟩ h1 h2 e1 e2 hr e3 hmt e4 (by rw [e1]; exact hq)
  have hA := hE.agree hi (by rw [upd_same]; exact e3)
  rw [upd_same, upd_upd] at hA
  refine ⟨_, ?_, hA, ?_⟩
  · have hc := h.cand i hi hr
    refine ⟨fun u j d hd => ⟨hd, rfl, id⟩, fun u d hd => ?_, fun _ _ => Nat.le_refl _⟩
    have hne : u ≠ (S i).lead2.term := fun e => by
      rw [e, e1] at hd
      obtain ⟨j, _, k1, k2, _⟩ := hq.meet (h.w _ _ hd).2.2.2.1
      rw [k1] at k2
      have := Option.some.inj k2
      rw [← this] at hd
      exact hc.2.2.1 hd
    exact ⟨(if_neg hne).trans hd, by show _ <+: (if _ then _ else _); rw [if_neg hne]; exact List.prefix_refl _, (h.w u d hd).2.2.2.2.1⟩
  · have := hA.outs hi (by rw [upd_same]; exact e3)
    rw [upd_same] at this
    exact this
theorem Gh.Le.trans {G'' : Gh} (a : G.Le G') (b : G'.Le G'') : G.Le G'' :=
  ⟨fun t j c h => by
    obtain ⟨h1, h2, h3⟩ := a.v t j c h
    obtain ⟨k1, k2, k3⟩ := b.v t j c h1
    exact ⟨k1, k2.trans h2, fun e => k3 (h3 e)⟩, fun t c h => by
    obtain ⟨h1, h2, h3⟩ := a.w t c h
    obtain ⟨k1, k2, _⟩ := b.w t c h1
    exact ⟨k1, h2.trans k2, h3⟩, fun t j => Nat.le_trans (a.k t j) (b.k t j)⟩
theorem Inv.le_refl (h : Inv n S M G) : G.Le G := ⟨fun _ _ _ h => ⟨h, rfl, id⟩, fun t c hw => ⟨hw, List.prefix_refl _, (h.w t c hw).2.2.2.2.1⟩, fun _ _ => Nat.le_refl _⟩
/-- What a step leaves. -/
def Step (n : Nat) (S : Nat → Sv) (M : Mg → Prop) (G : Gh) (i : Nat) (x : Sv) (out : List Mg) : Prop :=
  ∃ G', G.Le G' ∧ Inv n (upd S i x) M G' ∧ ∀ m ∈ out, G'.MOk n m
theorem Inv.stay (h : Inv n S M G) (i : Nat) : Step n S M G i (S i) [] := ⟨G, h.le_refl, by rw [upd_self]; exact h, fun m hm => by cases hm⟩
theorem termAt_bound {l : List Ent} {t : Int} (h : rises l 1 t = true) (h0 : 0 ≤ t) (k : Nat) : termAt l k ≤ t := by
  rcases Nat.eq_zero_or_pos k with rfl | h1
  · exact h0
  · rcases Nat.lt_or_ge l.length k with h2 | h2
    · rw [termAt_beyond h2]; exact h0
    · exact (rises_ge l 1 t k h h1 h2).2
theorem Inv.tick (h : Inv n S M G) {i : Nat} (hi : i < n) : Step n S M G i (S i).tick.1 (S i).tick.2 := by
  obtain ⟨hg, hid, hn⟩ := h.good i hi
  unfold Sv.tick
  split
  · rename_i hr
    exact ⟨G, h.le_refl, by rw [upd_self]; exact h, h.outs hi hr⟩
  · split
    · exact h.stay i
    · rename_i hr htm
      have hv : G.V (S i).cand.term i = none := by
        cases e : G.V (S i).cand.term i with
        | none => rfl
        | some c =>
          have h1 := (h.vt _ _ _ e).2.2.2.1
          have h2 : (S i).cand.term = (S i).term + 1 := rfl
          omega
      have hgc := hg.cand htm
      have hC := h.vote hi hi (x := (S i).cand) ⟨hgc, hid, hn⟩ rfl (by show (S i).term ≤ (S i).term + 1; omega) (by show 1 ≤ (S i).term + 1; have := hg.t0; omega) hv (by show (((S i).id : Nat) : Int) = _; rw [hid])
        (.inl ⟨rfl, ⟨rfl, by show 2 ^ (S i).id = _; rw [hid]⟩, fun k => by show termAt (S i).log k < (S i).term + 1; have := termAt_bound hg.log hg.t0 k; omega⟩) ((h.cm i hi).mono (by show (S i).term ≤ (S i).term + 1; omega))
      have hle := Gh.le_vote h (c := i) (L := (S i).cand.log) hv
      split
      · rename_i h1
        have hq : Quo n (fun j => (G.vote (S i).cand.term i i (S i).cand.log).V (upd S i (S i).cand i).term j = some i) := by
          rw [upd_same]
          have hn1 : n = 1 := by omega
          have hi0 : i = 0 := by omega
          subst hn1; subst hi0
          unfold Quo
          rw [cntP, if_pos]
          · have : cntP (fun j => (G.vote (S 0).cand.term 0 0 (S 0).cand.log).V (S 0).cand.term j = some 0) 0 = 0 := rfl
            omega
          · exact if_pos ⟨rfl, rfl⟩
        obtain ⟨G', l1, l2, l3⟩ := hC.leads hi (by rw [upd_same]; rfl) hq
        rw [upd_same, upd_upd] at l2
        rw [upd_same] at l3
        exact ⟨G', hle.trans l1, l2, l3⟩
      · have := hC.asks hi (by rw [upd_same]; rfl)
        rw [upd_same] at this
        exact ⟨_, hle, hC, this⟩
end
section
variable {n : Nat} {S : Nat → Sv} {M : Mg → Prop} {G G' : Gh}

/-- A server moves on, says something, and nothing else is remembered. -/
theorem Inv.stepF (h : Inv n S M G) {i : Nat} {x : Sv} {out : List Mg} (hx : Inv n (upd S i x) M G) (ho : ∀ m ∈ out, G.MOk n m) : Step n S M G i x out := ⟨G, h.le_refl, hx, ho⟩
theorem ans_ok {G : Gh} {n : Nat} {S : Sv} {m : Mg} {kind : Nat} {index : Int} {ok : Bool} (hm : Heard S m) (hn : S.n = n) (h1 : kind = 2 ∨ kind = 4)
    (h2 : kind = 2 → ok = true → ∃ c : Nat, m.frm = c ∧ G.V S.term S.id = some c) (h4 : kind = 4 → ok = true → ∃ q : Nat, index = q ∧ q ≤ G.K S.term S.id) : G.MOk n (S.ans m kind index ok) := by
  have := hm.frm1
  refine ⟨hm.frm0, by show m.frm < n; omega, fun e => ?_, fun e ho => ?_, fun e => ?_, fun e ho => ?_⟩
  · have e : kind = 1 := e; omega
  · obtain ⟨c, a, b⟩ := h2 e ho
    exact ⟨S.id, c, rfl, a, b⟩
  · have e : kind = 3 := e; omega
  · obtain ⟨q, a, b⟩ := h4 e ho
    exact ⟨S.id, q, rfl, a, b⟩
theorem Inv.asked (h : Inv n S M G) {i : Nat} (hi : i < n) {m : Mg} (hM : G.MOk n m) (hm : Heard (S i) m) (hk : m.kind = 1) : Step n S M G i ((S i).asked m).1 ((S i).asked m).2 := by
  obtain ⟨hg, hid, hn⟩ := h.good i hi
  unfold Sv.asked
  split
  · rename_i hgr
    unfold Sv.grants at hgr
    simp only [Bool.and_eq_true, Bool.or_eq_true, decide_eq_true_eq] at hgr
    obtain ⟨⟨ht, hv⟩, hu⟩ := hgr
    obtain ⟨c, hc1, hc2, hc3, hc4⟩ := hM.k1 hk
    rw [ht] at hc2 hc3 hc4
    have hci : c ≠ i := fun e => hm.frm2 (by rw [hc1, e, hid])
    rcases hv with hv | hv
    · have hV := h.v0 i hi hv
      have hr : (S i).role = 0 := by
        have h3 := hg.role
        rcases (show (S i).role = 0 ∨ (S i).role = 1 ∨ (S i).role = 2 by omega) with e | e | e
        · exact e
        · have := (h.cand i hi e).1; rw [hV] at this; cases this
        · have := (h.w _ _ (h.lead i hi e).1).2.2.2.2.1; rw [hV] at this; cases this
      have hgx : Sv.Good { S i with vote := m.frm } := by
        have := hm.frm0; have := hm.frm1
        exact ⟨⟨hg.id, hg.n, hg.t0, hg.t1, by show -1 ≤ m.frm; omega, hm.frm1, hg.len, hg.log, hg.role, hg.l0, hg.l1, hg.com, hg.vot, hg.nxl, hg.mtl, hg.nx4, hg.mt4, hg.nx1, hg.nxm, hg.mtm⟩, hg.t2⟩
      have hup : Gh.UpTo (G.VL (S i).term c) (S i).log := by
        rcases hu with h1 | ⟨h1, h2⟩
        · exact .inl (by rw [← hc4]; exact h1)
        · exact .inr ⟨by rw [← hc4]; exact h1, by omega⟩
      have hX := h.vote hi (c := c) (h.vt _ _ _ hc2).2.1 (x := { S i with vote := m.frm }) ⟨hgx, hid, hn⟩ rfl (Int.le_refl _) (by show 1 ≤ (S i).term; rw [← ht]; exact hm.t1) hV hc1 (.inr ⟨hci, hc2, hup, hr⟩) (h.cm i hi)
      refine ⟨_, Gh.le_vote h (c := c) (L := (S i).log) hV, hX, fun m' hm' => ?_⟩
      rw [List.mem_singleton] at hm'
      subst hm'
      exact ans_ok hm hn (.inl rfl) (fun _ _ => ⟨c, hc1, by rw [hid]; exact if_pos ⟨rfl, rfl⟩⟩) (fun e => absurd e (by decide))
    · have hsame : { S i with vote := m.frm } = S i := by rw [← hv]
      refine h.stepF (by rw [hsame, upd_self]; exact h) (fun m' hm' => ?_)
      rw [List.mem_singleton] at hm'
      subst hm'
      refine ans_ok hm hn (.inl rfl) (fun _ _ => ⟨c, hc1, ?_⟩) (fun e => absurd e (by decide))
      rw [hid]
      exact h.v1 i hi c (hv.trans hc1)
  · refine h.stepF (by rw [upd_self]; exact h) (fun m' hm' => ?_)
    rw [List.mem_singleton] at hm'
    subst hm'
    exact ans_ok hm hn (.inl rfl) (fun _ e => by cases e) (fun e => absurd e (by decide))
theorem Inv.voted (h : Inv n S M G) {i : Nat} (hi : i < n) {m : Mg} (hM : G.MOk n m) (hm : Heard (S i) m) (hk : m.kind = 2) : Step n S M G i ((S i).voted m).1 ((S i).voted m).2 := by
  obtain ⟨hg, hid, hn⟩ := h.good i hi
  unfold Sv.voted
  split
  · exact h.stay i
  · rename_i hc
    have hr : (S i).role = 1 := Decidable.not_not.1 (fun e => hc (.inl e))
    have ht : m.term = (S i).term := Decidable.not_not.1 (fun e => hc (.inr (.inl e)))
    have hok : m.ok = true := by cases e : m.ok with
      | true => rfl
      | false => exact absurd (.inr (.inr e)) hc
    obtain ⟨j, c, hj1, hc1, hV⟩ := hM.k2 hk hok
    rw [ht] at hV
    have hci : c = i := by have := hm.to; rw [hc1, hid] at this; omega
    subst hci
    have hjn := (h.vt _ _ _ hV).2.1
    have hn7 := hg.n
    have hfj : m.frm.toNat = j := by rw [hj1]; rfl
    rw [hfj]
    obtain ⟨k1, k2, k3, k4⟩ := h.cand c hi hr
    have hbits : ∀ k, k < 7 → ((S c).vote1 j).voters.testBit k = true → G.V (S c).term k = some c := fun k h7 hb => by
      have hb : ((S c).voters ||| 2 ^ j).testBit k = true := hb
      rw [Nat.testBit_or, Nat.testBit_two_pow, Bool.or_eq_true] at hb
      rcases hb with hb | hb
      · exact k4 k h7 hb
      · have : j = k := by simpa using hb
        rw [← this]; exact hV
    have hg1 : ((S c).vote1 j).Good := ⟨⟨hg.id, hg.n, hg.t0, hg.t1, hg.v0, hg.v1, hg.len, hg.log, hg.role, hg.l0, hg.l1, hg.com, or_lt hg.vot (by omega), hg.nxl, hg.mtl, hg.nx4, hg.mt4, hg.nx1, hg.nxm, hg.mtm⟩, hg.t2⟩
    have hX := h.frame hi (x := (S c).vote1 j) ⟨hg1, hid, hn⟩ rfl (Int.le_refl _) (h.v0 c hi) (h.v1 c hi) (fun _ => ⟨k1, k2, k3, hbits⟩) (fun e => absurd ((show (S c).role = 2 from e).symm.trans hr) (by decide)) (h.cm c hi)
    split
    · exact h.stepF hX (fun m hm => by cases hm)
    · rename_i hmaj
      have hq : Quo n (fun k => G.V (upd S c ((S c).vote1 j) c).term k = some c) := by
        rw [upd_same]
        show Quo n (fun k => G.V (S c).term k = some c)
        have := ones_cnt (p := fun k => G.V (S c).term k = some c) (n := n) (fun k h7 hb => ⟨(h.vt _ _ _ (hbits k h7 hb)).2.1, hbits k h7 hb⟩) 7 (Nat.le_refl _)
        have hn' : ((S c).vote1 j).n = n := hn
        unfold Quo
        have h8 : ¬ 2 * ones ((S c).vote1 j).voters 7 ≤ (S c).n := hmaj
        omega
      obtain ⟨G', l1, l2, l3⟩ := hX.leads hi (by rw [upd_same]; exact hr) hq
      rw [upd_same, upd_upd] at l2
      rw [upd_same] at l3
      exact ⟨G', l1, l2, l3⟩
theorem Inv.told (h : Inv n S M G) {i : Nat} (hi : i < n) {m : Mg} (hM : G.MOk n m) (hm : Heard (S i) m) (hk : m.kind = 4) : Step n S M G i ((S i).told m).1 ((S i).told m).2 := by
  obtain ⟨hg, hid, hn⟩ := h.good i hi
  unfold Sv.told
  split
  · exact h.stay i
  · rename_i hc
    have hr : (S i).role = 2 := Decidable.not_not.1 (fun e => hc (.inl e))
    have ht : m.term = (S i).term := Decidable.not_not.1 (fun e => hc (.inr (.inl e)))
    have hfn : m.frm.toNat < n := by have := hm.frm0; have := hm.frm1; omega
    have hn7 := hg.n
    obtain ⟨k1, k2, k3⟩ := h.lead i hi hr
    have hi0 := hm.i0
    have hi1 := hm.i1
    split
    · have b1 := hg.mtm hr m.frm.toNat (by omega)
      have b2 := hg.nxm hr m.frm.toNat (by omega)
      have b3 := hg.nx1 hr m.frm.toNat (by omega)
      have hl := hg.len
      have hk7 : m.frm.toNat < (S i).nx.length := by rw [hg.nxl]; omega
      have hg1 : ((S i).back m.frm.toNat m.index.toNat).Good := by
        refine ⟨⟨hg.id, hg.n, hg.t0, hg.t1, hg.v0, hg.v1, hg.len, hg.log, hg.role, hg.l0, hg.l1, hg.com, hg.vot, by show (List.set _ _ _).length = 7; rw [List.length_set]; exact hg.nxl, hg.mtl, ?_, hg.mt4, ?_, ?_, hg.mtm⟩, hg.t2⟩
        · intro k; show (List.set _ _ _).getD k 0 ≤ _; rw [getD_set _ _ _ _ hk7]; have := hg.nx4 k; split <;> omega
        · intro _ k hkn; show 1 ≤ (List.set _ _ _).getD k 0; rw [getD_set _ _ _ _ hk7]; have := hg.nx1 hr k hkn; split <;> omega
        · intro _ k hkn; show (List.set _ _ _).getD k 0 ≤ (S i).log.length + 1; rw [getD_set _ _ _ _ hk7]; have := hg.nxm hr k hkn; split <;> omega
      have hX := h.frame hi (x := (S i).back m.frm.toNat m.index.toNat) ⟨hg1, hid, hn⟩ rfl (Int.le_refl _) (h.v0 i hi) (h.v1 i hi) (fun e => absurd ((show (S i).role = 1 from e).symm.trans hr) (by decide)) (fun _ => ⟨k1, k2, k3⟩) (h.cm i hi)
      refine h.stepF hX (fun m' hm' => ?_)
      rw [List.mem_singleton] at hm'
      subst hm'
      have := hX.send hi (k := m.frm.toNat) (by rw [upd_same]; exact hr) hfn
      rw [upd_same] at this
      exact this
    · rename_i hok
      have hok : m.ok = true := by simpa using hok
      have hil : m.index.toNat ≤ (S i).log.length := by
        have : ¬ ((S i).log.length : Int) < m.index := fun e => hc (.inr (.inr ⟨hok, e⟩))
        omega
      obtain ⟨j, q, hj1, hq1, hK⟩ := hM.k4 hk hok
      have hfj : m.frm.toNat = j := by rw [hj1]; rfl
      have hiq : m.index.toNat = q := by rw [hq1]; rfl
      rw [hfj] at hfn
      rw [hiq] at hil
      rw [hfj, hiq]
      rw [ht] at hK
      have hj7 : j < (S i).mt.length := by rw [hg.mtl]; omega
      have hj7' : j < (S i).nx.length := by rw [hg.nxl]; omega
      have hl := hg.len
      have b1 := hg.mtm hr j (by omega)
      have hg1 : ((S i).has j q).Good := by
        refine ⟨⟨hg.id, hg.n, hg.t0, hg.t1, hg.v0, hg.v1, hg.len, hg.log, hg.role, hg.l0, hg.l1, hg.com, hg.vot, by show (List.set _ _ _).length = 7; rw [List.length_set]; exact hg.nxl, by show (List.set _ _ _).length = 7; rw [List.length_set]; exact hg.mtl, ?_, ?_, ?_, ?_, ?_⟩, hg.t2⟩
        · intro k; show (List.set _ _ _).getD k 0 ≤ _; rw [getD_set _ _ _ _ hj7']; have := hg.nx4 k; split <;> omega
        · intro k; show (List.set _ _ _).getD k 0 ≤ _; rw [getD_set _ _ _ _ hj7]; have := hg.mt4 k; split <;> omega
        · intro _ k hk; show 1 ≤ (List.set _ _ _).getD k 0; rw [getD_set _ _ _ _ hj7']; have := hg.nx1 hr k hk; split <;> omega
        · intro _ k hk; show (List.set _ _ _).getD k 0 ≤ (S i).log.length + 1; rw [getD_set _ _ _ _ hj7']; have := hg.nxm hr k hk; split <;> omega
        · intro _ k hk; show (List.set _ _ _).getD k 0 ≤ (S i).log.length; rw [getD_set _ _ _ _ hj7]; have := hg.mtm hr k hk; split <;> omega
      have hX := h.frame hi (x := (S i).has j q) ⟨hg1, hid, hn⟩ rfl (Int.le_refl _) (h.v0 i hi) (h.v1 i hi) (fun e => absurd ((show (S i).role = 1 from e).symm.trans hr) (by decide)) (fun _ => ⟨k1, k2, fun k hk hki => by
        show (List.set _ _ _).getD k 0 ≤ G.K (S i).term k
        rw [getD_set _ _ _ _ hj7]
        have := k3 k hk hki
        split
        · rename_i e; subst e; omega
        · exact this⟩) (h.cm i hi)
      have hA := hX.agree hi (by rw [upd_same]; exact hr)
      rw [upd_same, upd_upd] at hA
      split
      · exact h.stepF hA (fun m hm => by cases hm)
      · refine h.stepF hA (fun m' hm' => ?_)
        rw [List.mem_singleton] at hm'
        subst hm'
        have := hA.send hi (k := j) (by rw [upd_same]; exact hr) hfn
        rw [upd_same] at this
        exact this
theorem Inv.le_ackd (h : Inv n S M G) (t : Int) (i q : Nat) : G.Le (G.ackd t i q) :=
  ⟨fun u j d hd => ⟨hd, rfl, id⟩, fun u d hd => ⟨hd, List.prefix_refl _, (h.w u d hd).2.2.2.2.1⟩, fun u j => by
    unfold Gh.ackd
    dsimp only
    split
    · exact Nat.le_max_left _ _
    · exact Nat.le_refl _⟩
theorem ackd_ge (G : Gh) (t : Int) (i q : Nat) : q ≤ (G.ackd t i q).K t i := by
  unfold Gh.ackd
  dsimp only
  rw [if_pos ⟨rfl, rfl⟩]
  exact Nat.le_max_right _ _
theorem sound_take {G : Gh} {X : List Ent} (h : G.Sound X) (k : Nat) : G.Sound (X.take k) := fun j h0 hj => by
  rw [List.length_take] at hj
  have := h j h0 (by omega)
  rw [termAt_take (by omega), List.take_take, Nat.min_eq_left (by omega)]
  exact this
theorem drop_get {l : List Ent} {e i j : Nat} {x : Ent} (h : ((l.take e).drop i)[j]? = some x) : i + j < e ∧ l[i + j]? = some x := by
  rw [List.getElem?_drop, List.getElem?_take] at h
  split at h
  · exact ⟨by assumption, h⟩
  · cases h
set_option maxHeartbeats 1000000 in
theorem Inv.appended (h : Inv n S M G) {i : Nat} (hi : i < n) {m : Mg} (hM : G.MOk n m) (hm : Heard (S i) m) (hk : m.kind = 3) (hmt : m.term ≤ (S i).term) (hgx : ((S i).appended m).1.Good) : Step n S M G i ((S i).appended m).1 ((S i).appended m).2 := by
  obtain ⟨hg, hid, hn⟩ := h.good i hi
  unfold Sv.appended at hgx ⊢
  split
  · refine h.stepF (by rw [upd_self]; exact h) (fun m' hm' => ?_)
    rw [List.mem_singleton] at hm'
    subst hm'
    exact ans_ok hm hn (.inr rfl) (fun e => absurd e (by decide)) (fun _ e => by cases e)
  · rename_i hlt
    rw [if_neg hlt] at hgx
    have ht : m.term = (S i).term := by omega
    split
    · exact h.stay i
    · rename_i hr
      rw [if_neg hr] at hgx
      have hFG : ∀ (hg' : ((S i).foll m.frm).Good), Inv n (upd S i ((S i).foll m.frm)) M G := fun hg' => h.frame hi (x := (S i).foll m.frm) ⟨hg', hid, hn⟩ rfl (Int.le_refl _) (h.v0 i hi) (h.v1 i hi) (fun e => absurd (show (0 : Nat) = 1 from e) (by decide)) (fun e => absurd (show (0 : Nat) = 2 from e) (by decide)) (h.cm i hi)
      split
      · rename_i hp
        rw [if_pos hp] at hgx
        refine h.stepF (hFG hgx) (fun m' hm' => ?_)
        rw [List.mem_singleton] at hm'
        subst hm'
        exact ans_ok (S := (S i).foll m.frm) ⟨hm.kind, hm.to, hm.frm0, hm.frm1, hm.frm2, hm.t1, hm.t2, hm.i0, hm.i1, hm.l0, hm.l1, hm.c0, hm.len, hm.plain, hm.rises⟩ hn (.inr rfl) (fun e => absurd e (by decide)) (fun _ e => by cases e)
      · rename_i hp
        rw [if_neg hp] at hgx
        obtain ⟨c, i0, q, hc1, hcW, hi1, hq1, hel, hlt1, hents, hql, hcp⟩ := hM.k3 hk
        rw [ht] at hcW hel hlt1 hents hql hcp
        have hii : m.index.toNat = i0 := by rw [hi1]; rfl
        have hqq : m.commit.toNat = q := by rw [hq1]; rfl
        have hil : i0 ≤ (S i).log.length := by
          have : ¬ ((S i).log.length : Int) < m.index := fun e => hp (.inl e)
          omega
        have hpt : termAt (S i).log i0 = termAt (G.LL (S i).term) i0 := by
          have : termAt (S i).log m.index.toNat = m.logTerm := Decidable.not_not.1 (fun e => hp (.inr e))
          rw [hii] at this
          rw [this, hlt1]
        rw [hii] at hgx ⊢
        rw [hqq] at hgx ⊢
        have hci : c ≠ i := fun e => hm.frm2 (by rw [hc1, e, hid])
        have hsl := h.snd i hi
        have hsL := (h.w _ _ hcW).2.2.2.2.2.1
        have hwn : G.W (S i).term ≠ none := by rw [hcW]; exact fun e => by cases e
        generalize hLL : G.LL (S i).term = LL at *
        generalize hTT : (S i).term = T at *
        obtain ⟨d, hd⟩ : ∃ d, d = differs (S i).log m.ents i0 := ⟨_, rfl⟩
        have hd1 : d ≤ m.ents.length := by rw [hd]; exact differs_le _ _ _
        have hd2 : i0 + d ≤ (S i).log.length := by rw [hd]; exact differs_log _ _ _ hil
        have hat : ∀ j, j < d → ∀ x, m.ents[j]? = some x → i0 + 1 + j ≤ (S i).log.length ∧ termAt (S i).log (i0 + 1 + j) = x.term := fun j hj => df_at (S i).log m.ents i0 j (by rw [← hd]; exact hj)
        have hend : ∀ x, m.ents[d]? = some x → (S i).log.length < i0 + 1 + d ∨ termAt (S i).log (i0 + 1 + d) ≠ x.term := by rw [hd]; exact df_end (S i).log m.ents i0
        have hentT : ∀ j x, m.ents[j]? = some x → termAt LL (i0 + 1 + j) = x.term := fun j x hx => by
          rw [hents] at hx
          obtain ⟨h1, h2⟩ := drop_get hx
          rw [show i0 + 1 + j = (i0 + j) + 1 by omega, termAt_succ, h2]; rfl
        have hsame : (S i).log.take (i0 + d) = LL.take (i0 + d) := by
          rcases Nat.eq_zero_or_pos (i0 + d) with h0 | h0
          · rw [h0]; rfl
          · refine h.match_ hsl hsL h0 hd2 (by omega) ?_
            rcases Nat.eq_zero_or_pos d with h1 | h1
            · rw [h1, Nat.add_zero]; exact hpt
            · obtain ⟨x, hx⟩ : ∃ x, m.ents[d - 1]? = some x := ⟨_, List.getElem?_eq_getElem (by omega)⟩
              have h2 := (hat (d - 1) (by omega) x hx).2
              have h3 := hentT (d - 1) x hx
              rw [show i0 + 1 + (d - 1) = i0 + d by omega] at h2 h3
              rw [h2, h3]
        rw [← hd] at hgx ⊢
        clear hd
        obtain ⟨e, he⟩ : ∃ e, e = i0 + m.ents.length := ⟨_, rfl⟩
        rw [← he] at hgx hel ⊢
        have hheard : ∀ {Y : Sv}, Y.n = (S i).n → Y.id = (S i).id → Heard Y m := fun {Y} hy hz => ⟨hm.kind, by rw [hz]; exact hm.to, hm.frm0, by rw [hy]; exact hm.frm1, by rw [hz]; exact hm.frm2, hm.t1, hm.t2, hm.i0, hm.i1, hm.l0, hm.l1, hm.c0, hm.len, hm.plain, hm.rises⟩
        have hcommit : ∀ {X : List Ent}, LL.take e <+: X → (∀ k, k ≤ (S i).commit → k ≤ (S i).log.length → (S i).log.take (S i).commit = X.take (S i).commit) → G.CP n T (X.take (max (S i).commit (min q e))) := fun {X} hX hold => by
          rcases Nat.le_total (min q e) (S i).commit with h1 | h1
          · rw [Nat.max_eq_left h1, ← hold 0 (Nat.zero_le _) (Nat.zero_le _)]
            have := h.cm i hi
            rw [hTT] at this
            exact this
          · rw [Nat.max_eq_right h1]
            have h2 : (LL.take e).length = e := by rw [List.length_take]; omega
            have h3 := pre_eq hX (k := min q e) (by omega)
            rw [List.take_take, Nat.min_eq_left (Nat.min_le_right q e)] at h3
            rw [← h3]
            refine hcp.sub ?_
            have h4 : LL.take (min q e) = (LL.take q).take (min q e) := by rw [List.take_take, Nat.min_eq_left (Nat.min_le_left q e)]
            rw [h4]
            exact List.take_prefix _ _
        by_cases hde : d < m.ents.length
        · rw [if_pos hde] at hgx ⊢
          by_cases hcm : i0 + d < (S i).commit
          · rw [if_pos hcm] at hgx ⊢
            exact h.stepF (hFG hgx) (fun m hm => by cases hm)
          · rw [if_neg hcm] at hgx ⊢
            have hX : (S i).log.take (i0 + d) ++ m.ents.drop d = LL.take e := by
              rw [hsame, hents, List.drop_drop, ← he]
              have h1 : LL.take (i0 + d) = (LL.take e).take (i0 + d) := by rw [List.take_take, Nat.min_eq_left (by omega)]
              rw [h1, List.take_append_drop]
            rw [hX] at hgx ⊢
            have hA := h.acked hi (c := c) (q := e) (x := { (S i).foll m.frm with log := LL.take e, commit := max (S i).commit (min q e) }) ⟨hgx, hid, hn⟩ rfl rfl rfl (by show G.W (S i).term = _; rw [hTT]; exact hcW) hci (by show e ≤ (G.LL (S i).term).length; rw [hTT, hLL]; exact hel)
              (by show (G.LL (S i).term).take e <+: _; rw [hTT, hLL]; exact List.prefix_refl _) (sound_take hsL e) (fun t k ha h0 hw => ?_) (by
                show G.CP n (S i).term ((LL.take e).take _)
                rw [hTT]
                refine hcommit (List.prefix_refl _) (fun _ _ _ => ?_)
                rw [List.take_take, Nat.min_eq_left (by omega)]
                have h1 : (S i).commit ≤ i0 + d := by omega
                have h2 : (S i).log.take (S i).commit = ((S i).log.take (i0 + d)).take (S i).commit := by rw [List.take_take, Nat.min_eq_left h1]
                rw [h2, hsame, List.take_take, Nat.min_eq_left h1])
            · refine ⟨_, h.le_ackd _ _ _, hA, fun m' hm' => ?_⟩
              · rw [List.mem_singleton] at hm'
                subst hm'
                refine ans_ok (S := (S i).foll m.frm) (hheard rfl rfl) hn (.inr rfl) (fun e => absurd e (by decide)) (fun _ _ => ⟨e, rfl, ?_⟩)
                show e ≤ (G.ackd (S i).term i e).K (S i).term (S i).id
                rw [hid]
                exact ackd_ge _ _ _ _
            · show (G.LL t).take k <+: LL.take e ∨ ∃ u, t < u ∧ u ≤ (S i).term ∧ _
              rw [hTT]
              have hkl := h.ack_le ha
              have hklen : ((G.LL t).take k).length = k := by rw [List.length_take]; omega
              have htT : t ≤ T := by
                rcases ha with ⟨h1, _⟩ | h1
                · have := (h.w t i h1).2.2.1; omega
                · have := (h.k t i (by omega)).2.1; omega
              obtain ⟨x, hx⟩ : ∃ x, m.ents[d]? = some x := ⟨_, List.getElem?_eq_getElem hde⟩
              have hbad : ∀ {Y : List Ent}, Y.length = k → Y <+: (S i).log → Y <+: LL → Y <+: LL.take e := fun {Y} hY h1 h2 => by
                have h3 : k ≤ i0 + d := by
                  apply Nat.le_of_not_lt
                  intro h4
                  have h5 := termAt_pre h1 (k := i0 + 1 + d) (by omega)
                  have h6 := termAt_pre h2 (k := i0 + 1 + d) (by omega)
                  have h7 := hentT d x hx
                  rcases hend x hx with h8 | h8
                  · have := pre_len h1; omega
                  · exact h8 (by rw [← h5, h6, h7])
                refine pre_both h2 (List.take_prefix _ _) ?_
                rw [List.length_take]; omega
              rcases h.h1 t i k hi ha h0 hw with h1 | ⟨u, a, b, c1, d1⟩
              · rcases Int.lt_or_eq_of_le htT with h2 | h2
                · by_cases h3 : (G.LL t).take k <+: G.BL T
                  · have h4 := h3.trans (h.bl_pre hcW)
                    rw [hLL] at h4
                    exact .inl (hbad hklen h1 h4)
                  · exact .inr ⟨T, h2, Int.le_refl _, hwn, h3⟩
                · subst h2
                  rw [hLL] at h1 hklen ⊢
                  exact .inl (hbad hklen h1 (List.take_prefix _ _))
              · rw [hTT] at b
                exact .inr ⟨u, a, b, c1, d1⟩
        · rw [if_neg hde] at hgx ⊢
          have hde' : i0 + d = e := by omega
          rw [hde'] at hsame hd2
          have hA := h.acked hi (c := c) (q := e) (x := { (S i).foll m.frm with commit := max (S i).commit (min q e) }) ⟨hgx, hid, hn⟩ rfl rfl rfl (by show G.W (S i).term = _; rw [hTT]; exact hcW) hci (by show e ≤ (G.LL (S i).term).length; rw [hTT, hLL]; exact hel)
            (by show (G.LL (S i).term).take e <+: (S i).log; rw [hTT, hLL, ← hsame]; exact List.take_prefix _ _) hsl (fun t k ha h0 hw => h.h1 t i k hi ha h0 hw) (by
              show G.CP n (S i).term ((S i).log.take _)
              rw [hTT]
              exact hcommit (by rw [← hsame]; exact List.take_prefix _ _) (fun _ _ _ => rfl))
          refine ⟨_, h.le_ackd _ _ _, hA, fun m' hm' => ?_⟩
          · rw [List.mem_singleton] at hm'
            subst hm'
            refine ans_ok (S := (S i).foll m.frm) (hheard rfl rfl) hn (.inr rfl) (fun e => absurd e (by decide)) (fun _ _ => ⟨e, rfl, ?_⟩)
            show e ≤ (G.ackd (S i).term i e).K (S i).term (S i).id
            rw [hid]
            exact ackd_ge _ _ _ _
end
section
variable {n : Nat} {S : Nat → Sv} {M : Mg → Prop} {G G' : Gh}

theorem Step.trans {i : Nat} {x y : Sv} {o p : List Mg} (h1 : Step n S M G i x o) (h2 : ∀ G', G.Le G' → Inv n (upd S i x) M G' → Step n (upd S i x) M G' i y p) : Step n S M G i y p := by
  obtain ⟨G', l1, i1, _⟩ := h1
  obtain ⟨G'', l2, i2, o2⟩ := h2 G' l1 i1
  rw [upd_upd] at i2
  exact ⟨G'', l1.trans l2, i2, o2⟩
theorem Inv.up (h : Inv n S M G) {i : Nat} (hi : i < n) {m : Mg} (hm : Heard (S i) m) : Inv n (upd S i ((S i).up m)) M G := by
  obtain ⟨hg, hid, hn⟩ := h.good i hi
  have hgu := hg.up hm
  unfold Sv.up at hgu ⊢
  split
  · rename_i hlt
    rw [if_pos hlt] at hgu
    have hv : G.V m.term i = none := by
      cases e : G.V m.term i with
      | none => rfl
      | some c => have := (h.vt _ _ _ e).2.2.2.1; omega
    exact h.frame hi (x := (S i).low m.term) ⟨hgu, hid, hn⟩ rfl (by show (S i).term ≤ m.term; omega) (fun _ => hv) (fun c e => by have e : (-1 : Int) = c := e; omega) (fun e => absurd (show (0 : Nat) = 1 from e) (by decide)) (fun e => absurd (show (0 : Nat) = 2 from e) (by decide)) ((h.cm i hi).mono (by show (S i).term ≤ m.term; omega))
  · rw [upd_self]; exact h
theorem Inv.handle (h : Inv n S M G) {i : Nat} (hi : i < n) {m : Mg} (hM : G.MOk n m) : Step n S M G i ((S i).handle m).1 ((S i).handle m).2 := by
  unfold Sv.handle
  split
  · rename_i hh
    have hm := heard hh
    have hU := h.up hi hm
    have hmu := hm.up
    have hterm := Sv.up_term (S i) m
    refine Step.trans (o := []) ⟨G, h.le_refl, hU, fun m hm => by cases hm⟩ (fun G' hl hI => ?_)
    have hM' := hl.mok hM
    have hgd := (hI.good i hi).1
    have e : upd S i ((S i).up m) i = (S i).up m := upd_same _ _ _
    have hgx := (hgd.does (m := m) (by rw [e]; exact hmu) (by rw [e]; exact hterm))
    have key : Step n (upd S i ((S i).up m)) M G' i ((upd S i ((S i).up m) i).does m).1 ((upd S i ((S i).up m) i).does m).2 := by
      have hmu' : Heard (upd S i ((S i).up m) i) m := by rw [e]; exact hmu
      have hterm' : m.term ≤ (upd S i ((S i).up m) i).term := by rw [e]; exact hterm
      unfold Sv.does at hgx ⊢
      split
      · rename_i k1
        exact hI.asked hi hM' hmu' k1
      · rename_i k1
        rw [if_neg k1] at hgx
        split
        · rename_i k2
          exact hI.voted hi hM' hmu' k2
        · rename_i k2
          rw [if_neg k2] at hgx
          split
          · rename_i k3
            rw [if_pos k3] at hgx
            exact hI.appended hi hM' hmu' k3 hterm' hgx
          · rename_i k3
            exact hI.told hi hM' hmu' (by have := hm.kind; omega)
    rw [e] at key
    exact key
  · exact h.stay i
theorem Inv.propose (h : Inv n S M G) {i : Nat} (hi : i < n) (d : ByteArray) : Step n S M G i ((S i).propose d).1 [] := by
  obtain ⟨hg, hid, hn⟩ := h.good i hi
  unfold Sv.propose
  split
  · exact h.stay i
  · rename_i hr
    have hr : (S i).role = 2 := Decidable.not_not.1 hr
    split
    · exact h.stay i
    · split
      · exact h.stay i
      · rename_i hd hl
        have hlen := hg.len
        have hgp := hg.put (by omega) (by omega) (d := d) (by omega)
        have hX := h.grow hi (x := (S i).put d) (o := [⟨(S i).term, d⟩]) ⟨hgp, hid, hn⟩ rfl (fun e he => by rw [List.mem_singleton] at he; rw [he]; rfl) rfl rfl hr hr rfl rfl
        have hA := hX.agree hi (by rw [upd_same]; exact hr)
        rw [upd_same, upd_upd] at hA
        refine ⟨_, ?_, hA, fun m hm => by cases hm⟩
        obtain ⟨hw, hll, _⟩ := h.lead i hi hr
        refine ⟨fun u j d hd => ⟨hd, rfl, id⟩, fun u c hd => ⟨hd, ?_, (h.w u c hd).2.2.2.2.1⟩, fun _ _ => Nat.le_refl _⟩
        unfold Gh.grow
        dsimp only
        split
        · rename_i e
          rw [e]
          show G.LL (S i).term <+: (S i).log ++ _
          rw [hll]
          exact List.prefix_append _ _
        · exact List.prefix_refl _
theorem begin_good' {T : Sv} (hg : T.Good) : (Sv.begin_ T.id T.n T.term T.vote T.log).Good := by
  have hr : ∀ k, (List.replicate 7 0).getD k 0 = 0 := fun k => by
    rw [List.getD_eq_getElem?_getD, List.getElem?_replicate]
    split <;> rfl
  exact ⟨⟨hg.id, hg.n, hg.t0, hg.t1, hg.v0, hg.v1, hg.len, hg.log, Nat.zero_le _, by show (-1 : Int) ≤ -1; omega, by show (-1 : Int) < 7; omega, Nat.zero_le _, by show 0 < 128; omega, rfl, rfl,
    fun k => by show (List.replicate 7 0).getD k 0 ≤ 4097; rw [hr]; omega, fun k => by show (List.replicate 7 0).getD k 0 ≤ 4096; rw [hr]; omega, fun h => absurd (show (0 : Nat) = 2 from h) (by decide), fun h => absurd (show (0 : Nat) = 2 from h) (by decide), fun h => absurd (show (0 : Nat) = 2 from h) (by decide)⟩, fun h => absurd (show (0 : Nat) = 0 from rfl) h⟩
theorem Inv.again (h : Inv n S M G) {i : Nat} (hi : i < n) : Step n S M G i (Sv.begin_ i n (S i).term (S i).vote (S i).log) [] := by
  obtain ⟨hg, hid, hn⟩ := h.good i hi
  have hb := begin_good' hg
  rw [hid, hn] at hb
  exact h.stepF (h.frame hi (x := Sv.begin_ i n (S i).term (S i).vote (S i).log) ⟨hb, rfl, rfl⟩ rfl (Int.le_refl _) (h.v0 i hi) (h.v1 i hi) (fun e => absurd (show (0 : Nat) = 1 from e) (by decide)) (fun e => absurd (show (0 : Nat) = 2 from e) (by decide)) (by show G.CP n (S i).term (List.take 0 _); rw [List.take_zero]; exact CP_none)) (fun m hm => by cases hm)
/-- Servers that have nothing. -/
theorem Inv.start {n : Nat} (hn1 : 1 ≤ n) (hn : n ≤ 7) : ∃ G, Inv n (fun i => Sv.begin_ i n 0 (-1) []) (fun _ => False) G := by
  refine ⟨⟨fun _ _ => none, fun _ _ => [], fun _ _ => False, fun _ => none, fun _ => [], fun _ _ => 0⟩, ?_⟩
  have hr : ∀ k, (List.replicate 7 0).getD k 0 = 0 := fun k => by
    rw [List.getD_eq_getElem?_getD, List.getElem?_replicate]
    split <;> rfl
  refine ⟨fun i hi => ⟨⟨⟨hi, hn, Int.le_refl _, by show (0 : Int) ≤ 1152921504606846976; omega, Int.le_refl _, by show (-1 : Int) < (n : Nat); omega, Nat.zero_le _, rfl, Nat.zero_le _, Int.le_refl _, by show (-1 : Int) < 7; omega, Nat.le_refl _, by show 0 < 128; omega, rfl, rfl,
    fun k => by show (List.replicate 7 0).getD k 0 ≤ 4097; rw [hr]; omega, fun k => by show (List.replicate 7 0).getD k 0 ≤ 4096; rw [hr]; omega, fun h => absurd (show (0 : Nat) = 2 from h) (by decide), fun h => absurd (show (0 : Nat) = 2 from h) (by decide), fun h => absurd (show (0 : Nat) = 2 from h) (by decide)⟩, fun h => absurd (show (0 : Nat) = 0 from rfl) h⟩, rfl, rfl⟩,
    fun i _ k h0 hk => absurd (show k ≤ 0 from hk) (by omega), fun t j c hv => (by cases hv), fun t c hv => (by cases hv), fun j _ _ => rfl, fun j _ c e => (by have e : (-1 : Int) = c := e; omega), fun t _ j c hv => (by cases hv),
    fun i _ e => absurd (show (0 : Nat) = 1 from e) (by decide), fun i _ e => absurd (show (0 : Nat) = 2 from e) (by decide), fun t c hw => (by cases hw), fun t j hk => absurd (show 0 < 0 from hk) (by omega), fun t j k _ _ _ hw => absurd rfl hw, fun t u j k c hv => (by cases hv), fun i _ => (by show Gh.CP _ _ _ (List.take 0 _); rw [List.take_zero]; exact CP_none), fun m hm => hm.elim⟩

/-! How long logs are. -/
structure Bd (n : Nat) (S : Nat → Sv) (M : Mg → Prop) (d : Nat) : Prop where
  l : ∀ i, i < n → (S i).log.length + cntP (fun j => (S j).role = 1) n ≤ d
  m : ∀ m, M m → m.kind = 3 → m.index.toNat + m.ents.length + cntP (fun j => (S j).role = 1) n ≤ d
theorem Bd.more {d e : Nat} (h : Bd n S M d) (hd : d ≤ e) : Bd n S M e := ⟨fun i hi => Nat.le_trans (h.l i hi) hd, fun m hm hk => Nat.le_trans (h.m m hm hk) hd⟩
theorem cnt_upd {i : Nat} (hi : i < n) (x : Sv) : cntP (fun j => (upd S i x j).role = 1) n + (if (S i).role = 1 then 1 else 0) = cntP (fun j => (S j).role = 1) n + (if x.role = 1 then 1 else 0) := by
  have key : ∀ m, cntP (fun j => (upd S i x j).role = 1) m + (if i < m ∧ (S i).role = 1 then 1 else 0) = cntP (fun j => (S j).role = 1) m + (if i < m ∧ x.role = 1 then 1 else 0) := by
    intro m
    induction m with
    | zero => rw [if_neg (by omega), if_neg (by omega)]; rfl
    | succ m ih =>
      rw [cntP, cntP]
      by_cases e : m = i
      · subst e
        rw [if_neg (by omega), if_neg (by omega)] at ih
        rw [upd_same]
        by_cases h1 : x.role = 1 <;> by_cases h2 : (S m).role = 1 <;> simp [h1, h2] <;> omega
      · rw [upd_ne _ _ e]
        have e1 : (i < m + 1 ∧ (S i).role = 1) ↔ (i < m ∧ (S i).role = 1) := by constructor <;> (intro h; exact ⟨by omega, h.2⟩)
        have e2 : (i < m + 1 ∧ x.role = 1) ↔ (i < m ∧ x.role = 1) := by constructor <;> (intro h; exact ⟨by omega, h.2⟩)
        simp only [e1, e2]
        omega
  have := key n
  simp only [hi, true_and] at this
  exact this
/-- A step that makes no candidate keeps the bound; messages that it sends are no longer than the log. -/
theorem Bd.step {d : Nat} (h : Bd n S M d) {i : Nat} (hi : i < n) {x : Sv} {out : List Mg} (hx : (x.log.length ≤ (S i).log.length ∧ (x.role = 1 → (S i).role = 1)) ∨ ((S i).role = 1 ∧ x.role ≠ 1 ∧ x.log.length ≤ (S i).log.length + 1) ∨ (x.role ≠ 1 ∧ ∃ m, M m ∧ m.kind = 3 ∧ x.log.length ≤ m.index.toNat + m.ents.length))
    (ho : ∀ m ∈ out, m.kind = 3 → m.index.toNat + m.ents.length ≤ x.log.length) : Bd n (upd S i x) (fun m => M m ∨ m ∈ out) d := by
  have hc := cnt_upd (S := S) hi x
  have hxl : x.log.length + cntP (fun j => (upd S i x j).role = 1) n ≤ d ∧ cntP (fun j => (upd S i x j).role = 1) n ≤ cntP (fun j => (S j).role = 1) n := by
    have h1 := h.l i hi
    rcases hx with ⟨a, b⟩ | ⟨a, b, c⟩ | ⟨a, m, b, c, e⟩
    · by_cases h2 : x.role = 1
      · rw [if_pos h2, if_pos (b h2)] at hc; omega
      · rw [if_neg h2] at hc; split at hc <;> omega
    · rw [if_pos a, if_neg b] at hc; omega
    · have h3 := h.m m b c
      rw [if_neg a] at hc; split at hc <;> omega
  refine ⟨fun j hj => ?_, fun m hm hk => ?_⟩
  · by_cases e : j = i
    · rw [e, upd_same]; exact hxl.1
    · rw [upd_ne _ _ e]; have := h.l j hj; omega
  · rcases hm with hm | hm
    · have := h.m m hm hk; omega
    · have := ho m hm hk; omega
theorem Bd.up1 {d : Nat} (h : Bd n S M d) {i : Nat} (hi : i < n) {x : Sv} {out : List Mg} (hx : (x.log.length ≤ (S i).log.length) ∨ (x.role ≠ 1 ∧ x.log.length ≤ (S i).log.length + 1))
    (ho : ∀ m ∈ out, m.kind = 3 → m.index.toNat + m.ents.length ≤ x.log.length) : Bd n (upd S i x) (fun m => M m ∨ m ∈ out) (d + 1) := by
  have hc := cnt_upd (S := S) hi x
  have hxl : x.log.length + cntP (fun j => (upd S i x j).role = 1) n ≤ d + 1 ∧ cntP (fun j => (upd S i x j).role = 1) n ≤ cntP (fun j => (S j).role = 1) n + 1 := by
    have h1 := h.l i hi
    rcases hx with a | ⟨a, b⟩
    · split at hc <;> split at hc <;> omega
    · rw [if_neg a] at hc; split at hc <;> omega
  refine ⟨fun j hj => ?_, fun m hm hk => ?_⟩
  · by_cases e : j = i
    · rw [e, upd_same]; exact hxl.1
    · rw [upd_ne _ _ e]; have := h.l j hj; omega
  · rcases hm with hm | hm
    · have := h.m m hm hk; omega
    · have := ho m hm hk; omega
theorem send_len (T : Sv) (k : Nat) (h1 : T.nx.getD k 0 ≤ T.log.length + 1) : (T.send k).index.toNat + (T.send k).ents.length ≤ T.log.length := by
  show (((T.nx.getD k 0 - 1 : Nat) : Int)).toNat + (List.drop _ (List.take _ _)).length ≤ _
  rw [List.length_drop, List.length_take, Int.toNat_natCast]
  omega
theorem outs_len {T : Sv} (hg : T.Good) (hr : T.role = 2) : ∀ m ∈ T.outs, m.index.toNat + m.ents.length ≤ T.log.length := fun m hm => by
  unfold Sv.outs at hm
  obtain ⟨k, hk, rfl⟩ := List.mem_map.1 hm
  exact send_len T k (hg.nxm hr k (ks_mem hk).1)
theorem lead_log (T : Sv) : T.lead.log.length ≤ T.log.length + 1 := by
  unfold Sv.lead Sv.agree Sv.lead2
  split
  · show (T.log ++ [_]).length ≤ _; rw [List.length_append]; exact Nat.le_refl _
  · show T.log.length ≤ _; omega
theorem tick_bd {T : Sv} (hg : T.Good) : ((T.tick.1.log.length ≤ T.log.length) ∨ (T.tick.1.role ≠ 1 ∧ T.tick.1.log.length ≤ T.log.length + 1)) ∧ ∀ m ∈ T.tick.2, m.kind = 3 → m.index.toNat + m.ents.length ≤ T.tick.1.log.length := by
  have hgt := hg.tick
  unfold Sv.tick at hgt ⊢
  split
  · rename_i hr
    exact ⟨.inl (Nat.le_refl _), fun m hm _ => outs_len hg hr m hm⟩
  · rename_i hr
    rw [if_neg hr] at hgt
    split
    · exact ⟨.inl (Nat.le_refl _), fun m hm => by cases hm⟩
    · rename_i ht
      rw [if_neg ht] at hgt
      split
      · rename_i h1
        rw [if_pos h1] at hgt
        have e : T.cand.lead.role = 2 := ld_role' _
        exact ⟨.inr ⟨by rw [e]; decide, lead_log T.cand⟩, fun m hm _ => outs_len hgt e m hm⟩
      · refine ⟨.inl (Nat.le_refl _), fun m hm hk => ?_⟩
        unfold Sv.asks at hm
        obtain ⟨k, _, rfl⟩ := List.mem_map.1 hm
        exact absurd (show (1 : Nat) = 3 from hk) (by decide)
theorem handle_bd {T : Sv} (hg : T.Good) (m : Mg) :
    (((T.handle m).1.log.length ≤ T.log.length ∧ ((T.handle m).1.role = 1 → T.role = 1)) ∨ (T.role = 1 ∧ (T.handle m).1.role ≠ 1 ∧ (T.handle m).1.log.length ≤ T.log.length + 1) ∨ ((T.handle m).1.role ≠ 1 ∧ m.kind = 3 ∧ (T.handle m).1.log.length ≤ m.index.toNat + m.ents.length)) ∧
      ∀ o ∈ (T.handle m).2, o.kind = 3 → o.index.toNat + o.ents.length ≤ (T.handle m).1.log.length := by
  unfold Sv.handle
  split
  · rename_i hh
    have hm := heard hh
    have hgu := hg.up hm
    have h1 : (T.up m).log = T.log ∧ ((T.up m).role = 1 → T.role = 1) := by
      unfold Sv.up; split
      · exact ⟨rfl, fun e => absurd (show (0 : Nat) = 1 from e) (by decide)⟩
      · exact ⟨rfl, id⟩
    have hUn := Sv.up_n T m
    have hgd := hgu.does hm.up (Sv.up_term T m)
    rw [← h1.1]
    generalize hU : T.up m = U at *
    clear hU
    have one : ∀ {o a : Mg}, a.kind ≠ 3 → o ∈ [a] → o.kind = 3 → False := fun {o a} h2 ho h3 => by
      rw [List.mem_singleton] at ho; rw [ho] at h3; exact h2 h3
    unfold Sv.does at hgd ⊢
    split
    · unfold Sv.asked
      split
      · exact ⟨.inl ⟨Nat.le_refl _, h1.2⟩, fun o ho h3 => (one (by show (2 : Nat) ≠ 3; decide) ho h3).elim⟩
      · exact ⟨.inl ⟨Nat.le_refl _, h1.2⟩, fun o ho h3 => (one (by show (2 : Nat) ≠ 3; decide) ho h3).elim⟩
    · rename_i k1
      rw [if_neg k1] at hgd
      split
      · rename_i k2
        rw [if_pos k2] at hgd
        unfold Sv.voted at hgd ⊢
        split
        · exact ⟨.inl ⟨Nat.le_refl _, h1.2⟩, fun o ho => by cases ho⟩
        · rename_i hc
          rw [if_neg hc] at hgd
          have hr : U.role = 1 := Decidable.not_not.1 (fun e => hc (.inl e))
          split
          · exact ⟨.inl ⟨Nat.le_refl _, h1.2⟩, fun o ho => by cases ho⟩
          · rename_i hq
            rw [if_neg hq] at hgd
            have e : (U.vote1 m.frm.toNat).lead.role = 2 := ld_role' _
            exact ⟨.inr (.inl ⟨h1.2 hr, by rw [e]; decide, lead_log (U.vote1 m.frm.toNat)⟩), fun o ho _ => outs_len hgd e o ho⟩
      · rename_i k2
        rw [if_neg k2] at hgd
        split
        · rename_i k3
          rw [if_pos k3] at hgd
          unfold Sv.appended at hgd ⊢
          split
          · exact ⟨.inl ⟨Nat.le_refl _, h1.2⟩, fun o ho h3 => (one (by show (4 : Nat) ≠ 3; decide) ho h3).elim⟩
          · split
            · exact ⟨.inl ⟨Nat.le_refl _, h1.2⟩, fun o ho => by cases ho⟩
            · have h0 : ∀ {X : Prop}, (0 : Nat) = 1 → X := fun e => absurd e (by decide)
              split
              · exact ⟨.inl ⟨Nat.le_refl _, fun e => h0 e⟩, fun o ho h3 => (one (by show (4 : Nat) ≠ 3; decide) ho h3).elim⟩
              · rename_i hp
                split
                · split
                  · exact ⟨.inl ⟨Nat.le_refl _, fun e => h0 e⟩, fun o ho => by cases ho⟩
                  · refine ⟨.inr (.inr ⟨fun e => h0 e, k3, ?_⟩), fun o ho h3 => (one (by show (4 : Nat) ≠ 3; decide) ho h3).elim⟩
                    show (U.log.take _ ++ m.ents.drop _).length ≤ _
                    have hd := differs_le U.log m.ents m.index.toNat
                    rw [List.length_append, List.length_take, List.length_drop]
                    omega
                · exact ⟨.inl ⟨Nat.le_refl _, fun e => h0 e⟩, fun o ho h3 => (one (by show (4 : Nat) ≠ 3; decide) ho h3).elim⟩
        · rename_i k3
          rw [if_neg k3] at hgd
          unfold Sv.told at hgd ⊢
          split
          · exact ⟨.inl ⟨Nat.le_refl _, h1.2⟩, fun o ho => by cases ho⟩
          · rename_i hc
            rw [if_neg hc] at hgd
            have hr : U.role = 2 := Decidable.not_not.1 (fun e => hc (.inl e))
            have hfn : m.frm.toNat < U.n := by have := hm.frm0; have := hm.frm1; omega
            split
            · rename_i hk
              rw [if_pos hk] at hgd
              refine ⟨.inl ⟨Nat.le_refl _, h1.2⟩, fun o ho _ => ?_⟩
              rw [List.mem_singleton] at ho; subst ho
              exact send_len _ _ (hgd.nxm hr _ hfn)
            · rename_i hk
              rw [if_neg hk] at hgd
              split
              · exact ⟨.inl ⟨Nat.le_refl _, h1.2⟩, fun o ho => by cases ho⟩
              · rename_i hk2
                rw [if_neg hk2] at hgd
                refine ⟨.inl ⟨Nat.le_refl _, h1.2⟩, fun o ho _ => ?_⟩
                rw [List.mem_singleton] at ho; subst ho
                exact send_len _ _ (hgd.nxm hr _ hfn)
  · exact ⟨.inl ⟨Nat.le_refl _, id⟩, fun o ho => by cases ho⟩
theorem propose_len (T : Sv) (d : ByteArray) : (T.propose d).1.role = T.role ∧ (T.propose d).1.log.length ≤ T.log.length + 1 ∧ ((T.propose d).1.log.length ≤ T.log.length ∨ T.role = 2) := by
  unfold Sv.propose
  split
  · exact ⟨rfl, Nat.le_succ _, .inl (Nat.le_refl _)⟩
  · rename_i hr
    have hr : T.role = 2 := Decidable.not_not.1 hr
    split
    · exact ⟨rfl, Nat.le_succ _, .inl (Nat.le_refl _)⟩
    · split
      · exact ⟨rfl, Nat.le_succ _, .inl (Nat.le_refl _)⟩
      · exact ⟨rfl, by show (T.log ++ [_]).length ≤ _; rw [List.length_append]; exact Nat.le_refl _, .inr hr⟩
end
section
variable {n : Nat}

theorem agree_commit (T : Sv) : T.commit ≤ T.agree.commit := agr_ge T _
theorem lead_commit (T : Sv) : T.commit ≤ T.lead.commit := by
  have h : T.lead2.commit = T.commit := by unfold Sv.lead2; split <;> rfl
  have := agree_commit T.lead2
  unfold Sv.lead
  omega
theorem tick_commit (T : Sv) : T.commit ≤ T.tick.1.commit := by
  unfold Sv.tick
  split
  · exact Nat.le_refl _
  · split
    · exact Nat.le_refl _
    · split
      · exact lead_commit T.cand
      · exact Nat.le_refl _
theorem handle_commit (T : Sv) (m : Mg) : T.commit ≤ (T.handle m).1.commit := by
  unfold Sv.handle
  split
  · have h1 : (T.up m).commit = T.commit := by unfold Sv.up; split <;> rfl
    rw [← h1]
    generalize T.up m = U
    unfold Sv.does
    split
    · unfold Sv.asked; split <;> exact Nat.le_refl _
    · split
      · unfold Sv.voted
        split
        · exact Nat.le_refl _
        · split
          · exact Nat.le_refl _
          · exact lead_commit (U.vote1 m.frm.toNat)
      · split
        · unfold Sv.appended
          split
          · exact Nat.le_refl _
          · split
            · exact Nat.le_refl _
            · split
              · exact Nat.le_refl _
              · split
                · split
                  · exact Nat.le_refl _
                  · exact Nat.le_max_left _ _
                · exact Nat.le_max_left _ _
        · unfold Sv.told
          split
          · exact Nat.le_refl _
          · split
            · exact Nat.le_refl _
            · split
              · exact agree_commit (U.has m.frm.toNat m.index.toNat)
              · exact agree_commit (U.has m.frm.toNat m.index.toNat)
  · exact Nat.le_refl _
theorem propose_commit (T : Sv) (d : ByteArray) : T.commit ≤ (T.propose d).1.commit := by
  unfold Sv.propose
  split
  · exact Nat.le_refl _
  · split
    · exact Nat.le_refl _
    · split
      · exact Nat.le_refl _
      · exact agree_commit (T.put d)

/-- Who leads takes itself for the leader, and sends no more than is not known to be there. -/
def Sv.Own (T : Sv) : Prop := T.role = 2 → T.leader = T.id ∧ ∀ k, k < T.n → T.mt.getD k 0 + 1 ≤ T.nx.getD k 0
/-- Terms are small. -/
structure Tb (n : Nat) (S : Nat → Sv) (M : Mg → Prop) (d : Nat) : Prop where
  t : ∀ i, i < n → (S i).term ≤ d
  m : ∀ m, M m → m.term ≤ d
  l : ∀ i, i < n → (S i).Own
theorem lead_own (T : Sv) : T.lead.leader = T.lead.id ∧ T.lead.term = T.term ∧ T.lead.id = T.id ∧ T.lead.n = T.n ∧ T.lead.nx = setTo (T.log.length + 1) T.n T.nx ∧ T.lead.mt = setTo 0 T.n T.mt := by
  unfold Sv.lead Sv.agree Sv.lead2
  split <;> exact ⟨rfl, rfl, rfl, rfl, rfl, rfl⟩
theorem lead_Own {T : Sv} (h1 : T.nx.length = 7) (h2 : T.mt.length = 7) (hn : T.n ≤ 7) : T.lead.Own := fun _ => by
  obtain ⟨e1, _, _, e2, e3, e4⟩ := lead_own T
  refine ⟨e1, fun k hk => ?_⟩
  rw [e2] at hk
  rw [e3, e4, setTo_zero _ _ _ hk (by omega), setTo_zero _ _ _ hk (by omega)]
  omega
theorem outs_term {T : Sv} : ∀ m ∈ T.outs, m.term = T.term := fun m hm => by
  unfold Sv.outs at hm
  obtain ⟨k, _, rfl⟩ := List.mem_map.1 hm
  rfl
theorem tick_tb {T : Sv} (hg : T.Good) (h : T.Own) : T.tick.1.term ≤ T.term + 1 ∧ (∀ m ∈ T.tick.2, m.term = T.tick.1.term) ∧ T.tick.1.Own ∧ T.term ≤ T.tick.1.term := by
  unfold Sv.tick
  split
  · exact ⟨by show T.term ≤ _; omega, outs_term, h, Int.le_refl _⟩
  · split
    · exact ⟨by show T.term ≤ _; omega, (fun m hm => by cases hm), h, Int.le_refl _⟩
    · split
      · have e : T.cand.lead.term = T.term + 1 := (lead_own T.cand).2.1
        exact ⟨by rw [e]; omega, outs_term, lead_Own hg.nxl hg.mtl hg.n, by rw [e]; omega⟩
      · refine ⟨Int.le_refl _, fun m hm => ?_, fun e => absurd (show (1 : Nat) = 2 from e) (by decide), by show T.term ≤ T.term + 1; omega⟩
        unfold Sv.asks at hm
        obtain ⟨k, _, rfl⟩ := List.mem_map.1 hm
        rfl
theorem handle_tb {T : Sv} (hg : T.Good) (h : T.Own) (m : Mg) : ((T.handle m).1.term = T.term ∨ (T.handle m).1.term = m.term) ∧ (∀ o ∈ (T.handle m).2, o.term = (T.handle m).1.term) ∧ (T.handle m).1.Own := by
  unfold Sv.handle
  split
  · rename_i hh
    have hm := heard hh
    have h1 : ((T.up m).term = T.term ∨ (T.up m).term = m.term) ∧ (T.up m).Own := by
      unfold Sv.up; split
      · exact ⟨.inr rfl, fun e => absurd (show (0 : Nat) = 2 from e) (by decide)⟩
      · exact ⟨.inl rfl, h⟩
    have h2 := (hg.up hm).nxl
    have h3 := (hg.up hm).mtl
    have h4 := (hg.up hm).n
    have h5 : m.frm.toNat < 7 := by have := hm.frm0; have := hm.frm1; have := hg.n; omega
    generalize T.up m = U at *
    have one : ∀ {o a : Mg} {t : Int}, a.term = t → o ∈ [a] → o.term = t := fun {o a t} h2 ho => by
      rw [List.mem_singleton] at ho; rw [ho]; exact h2
    have none : ∀ {o : Mg} {t : Int}, o ∈ ([] : List Mg) → o.term = t := fun h => by cases h
    have f : ∀ {X : Prop}, (0 : Nat) = 2 → X := fun e => absurd e (by decide)
    unfold Sv.does
    split
    · unfold Sv.asked; split <;> exact ⟨h1.1, fun o ho => one rfl ho, h1.2⟩
    · split
      · unfold Sv.voted
        split
        · exact ⟨h1.1, fun o ho => none ho, h1.2⟩
        · split
          · exact ⟨h1.1, fun o ho => none ho, h1.2⟩
          · have e := lead_own (U.vote1 m.frm.toNat)
            exact ⟨by rw [e.2.1]; exact h1.1, outs_term, lead_Own h2 h3 h4⟩
      · split
        · unfold Sv.appended
          split
          · exact ⟨h1.1, fun o ho => one rfl ho, h1.2⟩
          · split
            · exact ⟨h1.1, fun o ho => none ho, h1.2⟩
            · split
              · exact ⟨h1.1, fun o ho => one rfl ho, fun e => f e⟩
              · split
                · split
                  · exact ⟨h1.1, fun o ho => none ho, fun e => f e⟩
                  · exact ⟨h1.1, fun o ho => one rfl ho, fun e => f e⟩
                · exact ⟨h1.1, fun o ho => one rfl ho, fun e => f e⟩
        · unfold Sv.told
          split
          · exact ⟨h1.1, fun o ho => none ho, h1.2⟩
          · split
            · refine ⟨h1.1, fun o ho => one rfl ho, fun hr => ⟨(h1.2 hr).1, fun k hk => ?_⟩⟩
              have := (h1.2 hr).2 k hk
              show U.mt.getD k 0 + 1 ≤ (List.set _ _ _).getD k 0
              rw [getD_set _ _ _ _ (by omega)]
              split
              · rename_i e; rw [e]; omega
              · exact this
            · have hx : (U.has m.frm.toNat m.index.toNat).agree.Own := fun hr => ⟨(h1.2 hr).1, fun k hk => by
                have := (h1.2 hr).2 k hk
                show (List.set _ _ _).getD k 0 + 1 ≤ (List.set _ _ _).getD k 0
                rw [getD_set _ _ _ _ (by omega), getD_set _ _ _ _ (by omega)]
                split
                · exact Nat.le_refl _
                · exact this⟩
              split
              · exact ⟨h1.1, fun o ho => none ho, hx⟩
              · exact ⟨h1.1, fun o ho => one rfl ho, hx⟩
  · exact ⟨.inl rfl, (fun o ho => by cases ho), h⟩
theorem propose_tb {T : Sv} (h : T.Own) (d : ByteArray) : (T.propose d).1.term = T.term ∧ (T.propose d).1.Own := by
  unfold Sv.propose
  split
  · exact ⟨rfl, h⟩
  · split
    · exact ⟨rfl, h⟩
    · split
      · exact ⟨rfl, h⟩
      · exact ⟨rfl, h⟩
theorem Tb.more {n : Nat} {S : Nat → Sv} {M : Mg → Prop} {d e : Nat} (h : Tb n S M d) (hd : d ≤ e) : Tb n S M e := ⟨fun i hi => by have := h.t i hi; omega, fun m hm => by have := h.m m hm; omega, h.l⟩
theorem Tb.step {n : Nat} {S : Nat → Sv} {M : Mg → Prop} {d e : Nat} (h : Tb n S M d) (hd : d ≤ e) {i : Nat} {x : Sv} {out : List Mg} (hx : x.term ≤ e) (ho : ∀ o ∈ out, o.term = x.term) (hl : x.Own) : Tb n (upd S i x) (fun m => M m ∨ m ∈ out) e :=
  ⟨fun j hj => by unfold upd; split; exact hx; exact (h.more hd).t j hj, fun m hm => by
    rcases hm with hm | hm
    · exact (h.more hd).m m hm
    · rw [ho m hm]; exact hx, fun j hj => by unfold upd; split; exact hl; exact h.l j hj⟩
/-- Servers as a function. -/
def fn (ss : List Sv) (i : Nat) : Sv := ss.getD i (Sv.begin_ 0 1 0 (-1) [])
theorem fn_get {ss : List Sv} {i : Nat} {T : Sv} (h : ss[i]? = some T) : fn ss i = T := by unfold fn; rw [List.getD_eq_getElem?_getD, h]; rfl
theorem fn_set {ss : List Sv} {i : Nat} (x : Sv) (h : i < ss.length) : fn (ss.set i x) = upd (fn ss) i x := by
  funext j
  unfold fn upd
  rw [List.getD_eq_getElem?_getD, List.getElem?_set]
  by_cases e : i = j
  · rw [if_pos e, if_pos h, if_pos e.symm]; rfl
  · rw [if_neg e, if_neg (fun h => e h.symm)]; exact (List.getD_eq_getElem?_getD ..).symm
/-- What the law has seen. -/
structure Seen where
  sure : List (Ent × Int)
  told : List Nat
  leads : List Int
  whose : List Nat
  bud : Nat
structure SeenOk (n : Nat) (ss : List Sv) (G : Gh) (Z : Seen) : Prop where
  sure : ∀ (k : Nat) y, Z.sure[k]? = some y → G.CP n y.2 ((Z.sure.take (k + 1)).map (·.1))
  tl : Z.told.length = 7
  told : ∀ i, i < n → Z.told.getD i 0 ≤ (fn ss i).commit
  ll : Z.leads.length = Z.whose.length
  lead : ∀ (k : Nat) t c, Z.leads[k]? = some t → Z.whose[k]? = some c → G.W t = some c
structure Sys (n : Nat) (ss : List Sv) (way : List Mg) (Z : Seen) (d : Nat) : Prop where
  len : ss.length = n
  n7 : n ≤ 7
  inv : ∃ G, Inv n (fn ss) (· ∈ way) G ∧ SeenOk n ss G Z
  bd : Bd n (fn ss) (· ∈ way) d
  tb : Tb n (fn ss) (· ∈ way) d
theorem Sys.good {ss : List Sv} {way : List Mg} {Z : Seen} {d : Nat} (h : Sys n ss way Z d) {i : Nat} {T : Sv} (hi : ss[i]? = some T) : T.Good ∧ T.id = i ∧ T.n = n ∧ T.log.length ≤ d ∧ i < n := by
  obtain ⟨G, hI, _⟩ := h.inv
  have hin : i < n := by rw [← h.len]; exact (List.getElem?_eq_some_iff.1 hi).1
  have h1 := hI.good i hin
  have h2 := h.bd.l i hin
  rw [fn_get hi] at h1 h2
  exact ⟨h1.1, h1.2.1, h1.2.2, by omega, hin⟩
/-- Some messages are lost. -/
theorem Sys.less {ss : List Sv} {way way' : List Mg} {Z : Seen} {d : Nat} (h : Sys n ss way Z d) (hw : ∀ m ∈ way', m ∈ way) : Sys n ss way' Z d := by
  obtain ⟨G, hI, hS⟩ := h.inv
  exact ⟨h.len, h.n7, ⟨G, hI.sent (fun m hm => .inl (hw m hm)), hS⟩, ⟨h.bd.l, fun m hm hk => h.bd.m m (hw m hm) hk⟩, ⟨h.tb.t, fun m hm => h.tb.m m (hw m hm), h.tb.l⟩⟩
theorem Sys.more {ss : List Sv} {way : List Mg} {Z : Seen} {d e : Nat} (h : Sys n ss way Z d) (hd : d ≤ e) : Sys n ss way Z e := ⟨h.len, h.n7, h.inv, h.bd.more hd, h.tb.more hd⟩
theorem SeenOk.le {ss ss' : List Sv} {G G' : Gh} {Z : Seen} (h : SeenOk n ss G Z) (hl : G.Le G') (hc : ∀ i, i < n → Z.told.getD i 0 ≤ (fn ss' i).commit) : SeenOk n ss' G' Z :=
  ⟨fun k y hy => hl.cp (h.sure k y hy), h.tl, hc, h.ll, fun k t c h1 h2 => (hl.w t c (h.lead k t c h1 h2)).1⟩
/-- A server does a step. -/
theorem Sys.step {ss : List Sv} {way : List Mg} {Z : Seen} {d d' : Nat} (h : Sys n ss way Z d) {i : Nat} {T x : Sv} {out : List Mg} (hi : ss[i]? = some T) (hc : T.commit ≤ x.commit)
    (hs : ∀ G, Inv n (fn ss) (· ∈ way) G → Step n (fn ss) (· ∈ way) G i x out) (hb : Bd n (upd (fn ss) i x) (fun m => m ∈ way ∨ m ∈ out) d') (ht : Tb n (upd (fn ss) i x) (fun m => m ∈ way ∨ m ∈ out) d') : Sys n (ss.set i x) (way ++ out) Z d' := by
  obtain ⟨G, hI, hS⟩ := h.inv
  have hil := (List.getElem?_eq_some_iff.1 hi).1
  obtain ⟨G', hl, hI', ho⟩ := hs G hI
  refine ⟨by rw [List.length_set]; exact h.len, h.n7, ⟨G', ?_, hS.le hl (fun j hj => ?_)⟩, ?_, ?_⟩
  · rw [fn_set x hil]
    exact hI'.sent (fun m hm => (List.mem_append.1 hm).imp id (ho m))
  · rw [fn_set x hil]
    by_cases e : j = i
    · subst e; rw [upd_same]; have := hS.told j hj; rw [fn_get hi] at this; omega
    · rw [upd_ne _ _ e]; exact hS.told j hj
  · rw [fn_set x hil]
    exact ⟨hb.l, fun m hm hk => hb.m m (List.mem_append.1 hm) hk⟩
  · rw [fn_set x hil]
    exact ⟨ht.t, fun m hm => ht.m m (List.mem_append.1 hm), ht.l⟩
theorem Sys.own {ss : List Sv} {way : List Mg} {Z : Seen} {d : Nat} (h : Sys n ss way Z d) {i : Nat} {T : Sv} (hi : ss[i]? = some T) : T.Own ∧ T.term ≤ d := by
  have hg := h.good hi
  have h1 := h.tb.l i hg.2.2.2.2
  have h2 := h.tb.t i hg.2.2.2.2
  rw [fn_get hi] at h1 h2
  exact ⟨h1, h2⟩
theorem Sys.tick {ss : List Sv} {way : List Mg} {Z : Seen} {d : Nat} (h : Sys n ss way Z d) {i : Nat} {T : Sv} (hi : ss[i]? = some T) : Sys n (ss.set i T.tick.1) (way ++ T.tick.2) Z (d + 1) := by
  have hg := h.good hi
  have e := fn_get hi
  have hb := tick_bd hg.1
  have ht := tick_tb hg.1 (h.own hi).1
  have ht0 := (h.own hi).2
  refine h.step hi (tick_commit T) (fun G hI => ?_) (h.bd.up1 hg.2.2.2.2 (by rw [e]; exact hb.1) hb.2) (h.tb.step (Nat.le_succ d) (by have := ht.1; omega) ht.2.1 ht.2.2.1)
  have := hI.tick hg.2.2.2.2
  rw [e] at this
  exact this
theorem Sys.handle {ss : List Sv} {way : List Mg} {Z : Seen} {d : Nat} (h : Sys n ss way Z d) {i : Nat} {T : Sv} (hi : ss[i]? = some T) {m : Mg} (hm : m ∈ way) : Sys n (ss.set i (T.handle m).1) (way ++ (T.handle m).2) Z d := by
  have hg := h.good hi
  have e := fn_get hi
  have hb := handle_bd hg.1 m
  refine h.step hi (handle_commit T m) (fun G hI => ?_) (h.bd.step hg.2.2.2.2 (by
    rw [e]
    rcases hb.1 with h1 | h1 | ⟨h1, h2, h3⟩
    · exact .inl h1
    · exact .inr (.inl h1)
    · exact .inr (.inr ⟨h1, m, hm, h2, h3⟩)) hb.2) (h.tb.step (Nat.le_refl d) (by
    have h1 := (h.own hi).2
    have h2 := h.tb.m m hm
    rcases (handle_tb hg.1 (h.own hi).1 m).1 with h3 | h3 <;> omega) (handle_tb hg.1 (h.own hi).1 m).2.1 (handle_tb hg.1 (h.own hi).1 m).2.2)
  have := hI.handle hg.2.2.2.2 (hI.ms m hm)
  rw [e] at this
  exact this
theorem Sys.propose {ss : List Sv} {way : List Mg} {Z : Seen} {d : Nat} (h : Sys n ss way Z d) {i : Nat} {T : Sv} (hi : ss[i]? = some T) (a : ByteArray) : Sys n (ss.set i (T.propose a).1) way Z (d + 1) := by
  have hg := h.good hi
  have e := fn_get hi
  have hb := propose_len T a
  have := h.step (x := (T.propose a).1) (out := []) (d' := d + 1) hi (propose_commit T a) (fun G hI => by
    have := hI.propose hg.2.2.2.2 a
    rw [e] at this
    exact this) (h.bd.up1 hg.2.2.2.2 (by
    rw [e]
    rcases hb.2.2 with h1 | h1
    · exact .inl h1
    · exact .inr ⟨by rw [hb.1, h1]; decide, hb.2.1⟩) (fun m hm => by cases hm)) (h.tb.step (Nat.le_succ d) (by have h1 := (h.own hi).2; have h2 := (propose_tb (h.own hi).1 a).1; omega) (fun o ho => by cases ho) (propose_tb (h.own hi).1 a).2)
  rw [List.append_nil] at this
  exact this
/-- A server is made anew. -/
theorem Sys.again {ss : List Sv} {way : List Mg} {Z : Seen} {d : Nat} (h : Sys n ss way Z d) {i : Nat} {T : Sv} (hi : ss[i]? = some T) :
    Sys n (ss.set i (Sv.begin_ i n T.term T.vote T.log)) way { Z with told := Z.told.set i 0 } d := by
  have hg := h.good hi
  have e := fn_get hi
  obtain ⟨G, hI, hS⟩ := h.inv
  have hil := (List.getElem?_eq_some_iff.1 hi).1
  obtain ⟨G', hl, hI', _⟩ := hI.again hg.2.2.2.2
  rw [e] at hI'
  have hb := h.bd.step hg.2.2.2.2 (x := Sv.begin_ i n T.term T.vote T.log) (out := []) (.inl ⟨by rw [e]; exact Nat.le_refl _, fun e => absurd (show (0 : Nat) = 1 from e) (by decide)⟩) (fun m hm => by cases hm)
  refine ⟨by rw [List.length_set]; exact h.len, h.n7, ⟨G', ?_, ⟨fun k y hy => hl.cp (hS.sure k y hy), by show (List.set _ _ _).length = 7; rw [List.length_set]; exact hS.tl, fun j hj => ?_, hS.ll, fun k t c h1 h2 => (hl.w t c (hS.lead k t c h1 h2)).1⟩⟩, ?_, ?_⟩
  · rw [fn_set _ hil]; exact hI'
  · rw [fn_set _ hil]
    show (Z.told.set i 0).getD j 0 ≤ _
    by_cases e2 : j = i
    · subst e2
      rw [List.getD_eq_getElem?_getD, List.getElem?_set]
      rw [if_pos rfl]
      split <;> exact Nat.zero_le _
    · rw [List.getD_eq_getElem?_getD, List.getElem?_set, if_neg (fun h => e2 h.symm), ← List.getD_eq_getElem?_getD, upd_ne _ _ e2]
      exact hS.told j hj
  · rw [fn_set _ hil]
    exact ⟨hb.l, fun m hm hk => hb.m m (.inl hm) hk⟩
  · rw [fn_set _ hil]
    have ht := h.tb.step (i := i) (Nat.le_refl d) (x := Sv.begin_ i n T.term T.vote T.log) (out := []) (h.own hi).2 (fun o ho => by cases ho) (fun e => absurd (show (0 : Nat) = 2 from e) (by decide))
    exact ⟨ht.t, fun m hm => ht.m m (.inl hm), ht.l⟩
theorem Sys.start (hn1 : 1 ≤ n) (hn : n ≤ 7) : Sys n ((List.range n).map fun i => Sv.begin_ i n 0 (-1) []) [] ⟨[], List.replicate 7 0, [], [], 5000⟩ 0 := by
  obtain ⟨G, hG⟩ := Inv.start hn1 hn
  have e : ∀ i, i < n → fn ((List.range n).map fun i => Sv.begin_ i n 0 (-1) []) i = Sv.begin_ i n 0 (-1) [] := fun i hi => fn_get (by rw [List.getElem?_map, List.getElem?_range hi]; rfl)
  have hcn : cntP (fun j => (fn ((List.range n).map fun i => Sv.begin_ i n 0 (-1) []) j).role = 1) n = 0 := by
    have : cntP (fun j => (fn ((List.range n).map fun i => Sv.begin_ i n 0 (-1) []) j).role = 1) n ≤ cntP (fun _ => False) n := cntP_mono n (fun j hj h => by rw [e j hj] at h; exact absurd (show (0 : Nat) = 1 from h) (by decide))
    have h2 : ∀ m, cntP (fun _ => False) m = 0 := fun m => by
      induction m with
      | zero => rfl
      | succ m ih => rw [cntP, ih, if_neg id]
    rw [h2] at this
    omega
  refine ⟨by rw [List.length_map, List.length_range], hn, ⟨G, ?_, ⟨fun k y h => by simp at h, rfl, fun i hi => ?_, rfl, fun k t c h => by simp at h⟩⟩, ⟨fun i hi => ?_, fun m hm => by cases hm⟩, ⟨fun i hi => by rw [e i hi]; exact Int.le_refl _, (fun m hm => by cases hm), fun i hi h => by rw [e i hi] at h; exact absurd (show (0 : Nat) = 2 from h) (by decide)⟩⟩
  · refine ⟨fun i hi => by rw [e i hi]; exact hG.good i hi, fun i hi => by rw [e i hi]; exact hG.snd i hi, fun t j c h => ?_, hG.vc, fun j hj h => ?_, fun j hj c h => ?_, hG.ev, fun i hi h => ?_, fun i hi h => ?_, fun t c h => ?_, fun t j h => ?_, fun t j k hj ha h0 hw => ?_, hG.h2, fun i hi => by rw [e i hi]; exact hG.cm i hi, fun m hm => by cases hm⟩
    · have h1 := hG.vt t j c h
      rw [e j h1.2.1, e c h1.2.2.1]; exact h1
    · rw [e j hj] at h ⊢; exact hG.v0 j hj h
    · rw [e j hj] at h ⊢; exact hG.v1 j hj c h
    · rw [e i hi] at h ⊢; exact hG.cand i hi h
    · rw [e i hi] at h ⊢; exact hG.lead i hi h
    · have h1 := hG.w t c h
      rw [e c h1.2.1]; exact h1
    · have h1 := hG.k t j h
      rw [e j h1.1]; exact h1
    · rw [e j hj]; exact hG.h1 t j k hj ha h0 hw
  · rw [List.getD_eq_getElem?_getD, List.getElem?_replicate]
    split <;> exact Nat.zero_le _
  · rw [e i hi, hcn]; exact Nat.le_refl _

/-! What the law looks at. -/
theorem take_map_get {l : List (Ent × Int)} {k : Nat} {y : Ent × Int} (h : l[k]? = some y) : ((l.take (k + 1)).map (·.1))[k]? = some y.1 := by
  rw [List.getElem?_map, List.getElem?_take, if_pos (by omega), h]; rfl
/-- What is sure stands in each log as far as it is committed. -/
theorem Sys.sureAt {ss : List Sv} {way : List Mg} {Z : Seen} {d : Nat} (h : Sys n ss way Z d) {i : Nat} {T : Sv} (hi : ss[i]? = some T) {k : Nat} {y : Ent × Int} {x : Ent} (hk : k < T.commit) (hy : Z.sure[k]? = some y) (hx : T.log[k]? = some x) : y.1 = x := by
  obtain ⟨G, hI, hS⟩ := h.inv
  have hg := h.good hi
  have h1 := hI.cm i hg.2.2.2.2
  rw [fn_get hi] at h1
  have h2 := hS.sure k y hy
  have e1 := take_map_get hy
  have e2 : (T.log.take T.commit)[k]? = some x := by rw [List.getElem?_take, if_pos hk]; exact hx
  have hc := hI.compat h1 h2
  have hpre : ∀ {a b : List Ent} {u v : Ent}, a <+: b → a[k]? = some u → b[k]? = some v → u = v := fun {a b u v} hab ha hb => by
    obtain ⟨r, rfl⟩ := hab
    rw [List.getElem?_append_left (List.getElem?_eq_some_iff.1 ha).1, ha] at hb
    exact Option.some.inj hb
  rcases hc with h3 | h3
  · exact (hpre h3 e2 e1).symm
  · exact hpre h3 e1 e2
/-- One more entry is sure. -/
theorem Sys.sureMore {ss : List Sv} {way : List Mg} {Z : Seen} {d : Nat} (h : Sys n ss way Z d) {i : Nat} {T : Sv} (hi : ss[i]? = some T) {x : Ent} (hk : Z.sure.length < T.commit) (hx : T.log[Z.sure.length]? = some x) : Sys n ss way { Z with sure := Z.sure ++ [(x, T.term)] } d := by
  obtain ⟨G, hI, hS⟩ := h.inv
  have hg := h.good hi
  have h1 := hI.cm i hg.2.2.2.2
  rw [fn_get hi] at h1
  refine ⟨h.len, h.n7, ⟨G, hI, ⟨fun k y hy => ?_, hS.tl, hS.told, hS.ll, hS.lead⟩⟩, h.bd, h.tb⟩
  rcases Nat.lt_or_ge k Z.sure.length with hlt | hge
  · have hy' : Z.sure[k]? = some y := by rw [← hy]; exact (List.getElem?_append_left hlt).symm
    have : (Z.sure ++ [(x, T.term)]).take (k + 1) = Z.sure.take (k + 1) := List.take_append_of_le_length (by omega)
    show G.CP n y.2 (((Z.sure ++ [(x, T.term)]).take (k + 1)).map (·.1))
    rw [this]
    exact hS.sure k y hy'
  · have hkl := (List.getElem?_eq_some_iff.1 hy).1
    have hkl : k < (Z.sure ++ [(x, T.term)]).length := hkl
    rw [List.length_append] at hkl
    have hk0 : k = Z.sure.length := by simp at hkl; omega
    subst hk0
    have hy : (Z.sure ++ [(x, T.term)])[Z.sure.length]? = some y := hy
    rw [List.getElem?_append_right (Nat.le_refl _), Nat.sub_self] at hy
    have hy : (x, T.term) = y := by simpa using hy
    subst hy
    show G.CP n T.term (((Z.sure ++ [(x, T.term)]).take (Z.sure.length + 1)).map (·.1))
    refine h1.sub ?_
    have e : ((Z.sure ++ [(x, T.term)]).take (Z.sure.length + 1)).map (·.1) = T.log.take (Z.sure.length + 1) := by
      rw [List.take_of_length_le (by simp), List.map_append]
      apply List.ext_getElem?
      intro j
      rcases Nat.lt_trichotomy j Z.sure.length with hj | hj | hj
      · rw [List.getElem?_append_left (by simpa using hj), List.getElem?_map, List.getElem?_take, if_pos (by omega)]
        have hjT : j < T.log.length := by have := hg.1.com; omega
        have := h.sureAt hi (k := j) (by omega) (List.getElem?_eq_getElem hj) (List.getElem?_eq_getElem hjT)
        rw [List.getElem?_eq_getElem hj, List.getElem?_eq_getElem hjT]
        exact congrArg some this
      · subst hj
        rw [List.getElem?_append_right (by simp), List.getElem?_take, if_pos (by omega), hx]
        simp
      · rw [List.getElem?_eq_none (by simp; omega), List.getElem?_eq_none (by rw [List.length_take]; omega)]
    rw [e]
    have h2 : T.log.take (Z.sure.length + 1) = (T.log.take T.commit).take (Z.sure.length + 1) := by rw [List.take_take, Nat.min_eq_left (by omega)]
    rw [h2]
    exact List.take_prefix _ _
/-- A server's commit is told. -/
theorem Sys.toldNow {ss : List Sv} {way : List Mg} {Z : Seen} {d : Nat} (h : Sys n ss way Z d) {i : Nat} {T : Sv} (hi : ss[i]? = some T) : Z.told.getD i 0 ≤ T.commit ∧ Sys n ss way { Z with told := Z.told.set i T.commit } d := by
  obtain ⟨G, hI, hS⟩ := h.inv
  have hg := h.good hi
  have e := fn_get hi
  have h1 := hS.told i hg.2.2.2.2
  rw [e] at h1
  refine ⟨h1, h.len, h.n7, ⟨G, hI, ⟨hS.sure, by show (List.set _ _ _).length = 7; rw [List.length_set]; exact hS.tl, fun j hj => ?_, hS.ll, hS.lead⟩⟩, h.bd, h.tb⟩
  show (Z.told.set i T.commit).getD j 0 ≤ _
  rw [List.getD_eq_getElem?_getD, List.getElem?_set]
  by_cases e2 : i = j
  · subst e2
    rw [if_pos rfl, e]
    split
    · exact Nat.le_refl _
    · exact Nat.zero_le _
  · rw [if_neg e2, ← List.getD_eq_getElem?_getD]; exact hS.told j hj
/-- Of one Term there is one leader. -/
theorem Sys.leadAt {ss : List Sv} {way : List Mg} {Z : Seen} {d : Nat} (h : Sys n ss way Z d) {i : Nat} {T : Sv} (hi : ss[i]? = some T) (hr : T.role = 2) {k : Nat} {c : Nat} (h1 : Z.leads[k]? = some T.term) (h2 : Z.whose[k]? = some c) : c = i := by
  obtain ⟨G, hI, hS⟩ := h.inv
  have hg := h.good hi
  have h3 := (hI.lead i hg.2.2.2.2 (by rw [fn_get hi]; exact hr)).1
  rw [fn_get hi] at h3
  have h4 := hS.lead k _ _ h1 h2
  rw [h3] at h4
  exact (Option.some.inj h4).symm
theorem Sys.leadMore {ss : List Sv} {way : List Mg} {Z : Seen} {d : Nat} (h : Sys n ss way Z d) {i : Nat} {T : Sv} (hi : ss[i]? = some T) (hr : T.role = 2) : Sys n ss way { Z with leads := Z.leads ++ [T.term], whose := Z.whose ++ [i] } d := by
  obtain ⟨G, hI, hS⟩ := h.inv
  have hg := h.good hi
  have h3 := (hI.lead i hg.2.2.2.2 (by rw [fn_get hi]; exact hr)).1
  rw [fn_get hi] at h3
  refine ⟨h.len, h.n7, ⟨G, hI, ⟨hS.sure, hS.tl, hS.told, by simp [hS.ll], fun k t c h1 h2 => ?_⟩⟩, h.bd, h.tb⟩
  have h1 : (Z.leads ++ [T.term])[k]? = some t := h1
  have h2 : (Z.whose ++ [i])[k]? = some c := h2
  rcases Nat.lt_or_ge k Z.leads.length with hk | hk
  · rw [List.getElem?_append_left hk] at h1
    rw [List.getElem?_append_left (by rw [← hS.ll]; exact hk)] at h2
    exact hS.lead k t c h1 h2
  · have hkl := (List.getElem?_eq_some_iff.1 h1).1
    rw [List.length_append] at hkl
    have hk0 : k = Z.leads.length := by simp at hkl; omega
    rw [hk0, List.getElem?_append_right (Nat.le_refl _), Nat.sub_self] at h1
    rw [hk0, hS.ll, List.getElem?_append_right (Nat.le_refl _), Nat.sub_self] at h2
    have h1 : T.term = t := by simpa using h1
    have h2 : i = c := by simpa using h2
    rw [← h1, ← h2]; exact h3
/-- A leader has what was committed in lesser Terms. -/
theorem Sys.keptAt {ss : List Sv} {way : List Mg} {Z : Seen} {d : Nat} (h : Sys n ss way Z d) {i : Nat} {T : Sv} (hi : ss[i]? = some T) (hr : T.role = 2) {k : Nat} {y : Ent × Int} (hy : Z.sure[k]? = some y) (ht : y.2 < T.term) : k < T.log.length ∧ T.log[k]? = some y.1 := by
  obtain ⟨G, hI, hS⟩ := h.inv
  have hg := h.good hi
  have h1 := hI.kept hg.2.2.2.2 (by rw [fn_get hi]; exact hr) (hS.sure k y hy) (by rw [fn_get hi]; omega)
  rw [fn_get hi] at h1
  have e1 := take_map_get hy
  obtain ⟨r, hrr⟩ := h1
  rw [← hrr, List.getElem?_append_left (List.getElem?_eq_some_iff.1 e1).1, e1]
  refine ⟨?_, rfl⟩
  rw [List.length_append]
  have := (List.getElem?_eq_some_iff.1 e1).1
  omega
/-- Logs match. -/
theorem Sys.matchAt {ss : List Sv} {way : List Mg} {Z : Seen} {d : Nat} (h : Sys n ss way Z d) {i j : Nat} {T U : Sv} (hi : ss[i]? = some T) (hj : ss[j]? = some U) {k : Nat} {x y : Ent} (hx : T.log[k]? = some x) (hy : U.log[k]? = some y) (ht : x.term = y.term) : T.log.take (k + 1) = U.log.take (k + 1) := by
  obtain ⟨G, hI, _⟩ := h.inv
  have h1 := hI.snd i (h.good hi).2.2.2.2
  have h2 := hI.snd j (h.good hj).2.2.2.2
  rw [fn_get hi] at h1
  rw [fn_get hj] at h2
  refine hI.match_ h1 h2 (Nat.succ_pos k) (List.getElem?_eq_some_iff.1 hx).1 (List.getElem?_eq_some_iff.1 hy).1 ?_
  rw [termAt_succ, termAt_succ, hx, hy]
  exact ht
/-- Messages come to servers that there are. -/
theorem Sys.toAt {ss : List Sv} {way : List Mg} {Z : Seen} {d : Nat} (h : Sys n ss way Z d) {m : Mg} (hm : m ∈ way) : 0 ≤ m.to ∧ m.to < n := by
  obtain ⟨G, hI, _⟩ := h.inv
  exact ⟨(hI.ms m hm).to0, (hI.ms m hm).to1⟩
end
end Go.Proofs.Ytjodglepaeomiaa
