/- A region that draws its order, walked by a plan: quiet operations first, and forks where one of two acting operations may come up. (Mix, with forks.) -/
import Derived.Test.YtlfkiaphmifelaaDoorMix
namespace Go.Proofs.YtlfkiaphmifelaaDoor
open Go.RowKit

inductive Plan where
  | fin
  | q (i : Nat) (r : Plan)
  | a1 (i : Nat) (r : Plan)
  | a2 (i : Nat) (r : Plan) (j : Nat) (s : Plan)
def Plan.len : Plan → Nat
  | .fin => 0
  | .q _ r => r.len + 1
  | .a1 _ r => r.len + 1
  | .a2 _ r _ _ => r.len + 1
section
variable {P : Program} {ops : Array Oper} {Q : Exit → Act → World → Prop} {md : Region.Mode} {e : Nat} {F : World → Prop}
def wpPlan (P : Program) (ops : Array Oper) (Q : Exit → Act → World → Prop) (e : Nat) (F : World → Prop) : Bool → Plan → Act → World → Prop
  | _, .fin, a, w => Q .normal a w
  | nd, .q i r, a, w =>
    match ops[i]? with
    | none => False
    | some o => ∃ v, YieldsIf P ops (fun w => nd = true → F w) o v a ∧ wpPlan P ops Q e F nd r (a.put o.dst v) w
  | nd, .a1 i r, a, w =>
    match ops[i]? with
    | none => False
    | some o => if Region.wanted o (yielded ops a.tmps) then o.wp P a w (fun a' w' => ((nd && i != e) = true → F w') ∧ wpPlan P ops Q e F (nd && i != e) r a' w') Q else wpPlan P ops Q e F (nd && i != e) r (a.put o.dst undef) w
  | nd, .a2 i r j s, a, w =>
    (match ops[i]? with
    | none => False
    | some o => if Region.wanted o (yielded ops a.tmps) then o.wp P a w (fun a' w' => ((nd && i != e) = true → F w') ∧ wpPlan P ops Q e F (nd && i != e) r a' w') Q else wpPlan P ops Q e F (nd && i != e) r (a.put o.dst undef) w) ∧
    (match ops[j]? with
    | none => False
    | some o => if Region.wanted o (yielded ops a.tmps) then o.wp P a w (fun a' w' => ((nd && j != e) = true → F w') ∧ wpPlan P ops Q e F (nd && j != e) s a' w') Q else wpPlan P ops Q e F (nd && j != e) s (a.put o.dst undef) w)
def Region.planB (md : Region.Mode) (ops : Array Oper) (e : Nat) : Plan → Array Bool → Bool
  | .fin, listed => (Region.ready md ops listed).isEmpty
  | .a1 i r, listed => decide (Region.ready md ops listed = [i]) && Region.planB md ops e r (listed.setIfInBounds i true)
  | .a2 i r j s, listed => decide (Region.ready md ops listed = [i, j]) && (r.len == s.len) && Region.planB md ops e r (listed.setIfInBounds i true) && Region.planB md ops e s (listed.setIfInBounds j true)
  | .q i r, listed => (Region.ready md ops listed).contains i && Region.free md ops listed i && (i != e) && (listed.getD e false || decide (ops.size ≤ e) || Region.waitsT md ops 12 e i) && Region.planB md ops e r (listed.setIfInBounds i true)
/-- What the list of operations that have come up says of e, behind one more. -/
theorem nd_step {listed : Array Bool} {nd : Bool} {j : Nat} (hnd : nd = !listed.getD e false) (hlt : j < listed.size) : (nd && j != e) = !(listed.setIfInBounds j true).getD e false := by
  by_cases hje : j = e
  · subst hje
    have : (listed.setIfInBounds j true).getD j false = true := by simp [hlt]
    rw [this]; simp
  · rw [getD_set_ne false hje, hnd]
    have : (j != e) = true := by simpa using hje
    rw [this, Bool.and_true]
theorem plan_act {listed : Array Bool} {nd : Bool} {a : Act} {w : World} {i : Nat} {r : Plan} (hmem : i ∈ Region.ready md ops listed) (hnd : nd = !listed.getD e false) (hF : nd = true → F w)
    (ih : ∀ a' w', ((nd && i != e) = !(listed.setIfInBounds i true).getD e false) → ((nd && i != e) = true → F w') → wpPlan P ops Q e F (nd && i != e) r a' w' → wpAnyM P md ops Q e F r.len (listed.setIfInBounds i true) a' w')
    (h : match ops[i]? with
      | none => False
      | some o => if Region.wanted o (yielded ops a.tmps) then o.wp P a w (fun a' w' => ((nd && i != e) = true → F w') ∧ wpPlan P ops Q e F (nd && i != e) r a' w') Q else wpPlan P ops Q e F (nd && i != e) r (a.put o.dst undef) w) :
    wpOp P ops Q i (fun a' w' => SE e F (listed.setIfInBounds i true) w' ∧ wpAnyM P md ops Q e F r.len (listed.setIfInBounds i true) a' w') a w := by
  obtain ⟨hun, o, ho, _⟩ := mem_ready.1 hmem
  have hlt : i < listed.size := by
    rcases Nat.lt_or_ge i listed.size with h' | h'
    · exact h'
    · simp [Array.getElem?_eq_none h'] at hun
  have hnd' := nd_step (e := e) (j := i) hnd hlt
  have hSE : ∀ w', ((nd && i != e) = true → F w') → SE e F (listed.setIfInBounds i true) w' := fun w' hF' => by
    cases hb : (listed.setIfInBounds i true).getD e false with
    | true => exact .inl hb
    | false => rw [hb] at hnd'; exact .inr (hF' (by rw [hnd']; rfl))
  simp only [ho] at h
  unfold wpOp
  simp only [ho]
  split at h
  · rename_i hw
    rw [if_pos hw]
    refine .inl (Oper.wp_mono (fun a' w' h' => ?_) h)
    exact ⟨hSE w' h'.1, ih a' w' hnd' h'.1 h'.2⟩
  · rename_i hw
    rw [if_neg hw]
    have hF' : (nd && i != e) = true → F w := fun hh => hF (by rw [Bool.and_eq_true] at hh; exact hh.1)
    exact ⟨hSE w hF', ih _ w hnd' hF' h⟩
theorem plan_sound (hsel : Region.noSelect ops = true) (hQ : ∀ c a b w, Q (.panic c) a w → Q (.panic c) b w) : ∀ (r : Plan) (nd : Bool) (listed : Array Bool) (a : Act) (w : World),
    Region.planB md ops e r listed = true → (nd = !listed.getD e false) → Closed md ops listed → (nd = true → F w) → wpPlan P ops Q e F nd r a w → wpAnyM P md ops Q e F r.len listed a w
  | .fin, nd, listed, a, w, hB, _, _, _, h => ⟨by simpa [Region.planB] using hB, h⟩
  | .a1 i r, nd, listed, a, w, hB, hnd, hcl, hF, h => by
    simp only [Region.planB, Bool.and_eq_true, decide_eq_true_eq] at hB
    refine ⟨fun h0 => (by rw [hB.1] at h0; cases h0), fun j hj => ?_⟩
    rw [hB.1] at hj
    have hji : j = i := by simpa using hj
    subst hji
    have hmem : j ∈ Region.ready md ops listed := by rw [hB.1]; simp
    unfold wpPlan at h
    exact plan_act hmem hnd hF (fun a' w' h1 h2 h3 => plan_sound hsel hQ r _ _ a' w' hB.2 h1 (hcl.set hmem) h2 h3) h
  | .a2 i r k s, nd, listed, a, w, hB, hnd, hcl, hF, h => by
    simp only [Region.planB, Bool.and_eq_true, decide_eq_true_eq, beq_iff_eq] at hB
    obtain ⟨⟨⟨hr, hl⟩, hB1⟩, hB2⟩ := hB
    refine ⟨fun h0 => (by rw [hr] at h0; cases h0), fun j hj => ?_⟩
    have hmem := hj
    rw [hr] at hj
    unfold wpPlan at h
    have hj' : j = i ∨ j = k := by simpa using hj
    rcases hj' with hj' | hj'
    · subst hj'
      exact plan_act hmem hnd hF (fun a' w' h1 h2 h3 => plan_sound hsel hQ r _ _ a' w' hB1 h1 (hcl.set hmem) h2 h3) h.1
    · subst hj'
      have := plan_act (r := s) hmem hnd hF (fun a' w' h1 h2 h3 => plan_sound hsel hQ s _ _ a' w' hB2 h1 (hcl.set hmem) h2 h3) h.2
      rw [← hl] at this
      exact this
  | .q i r, nd, listed, a, w, hB, hnd, hcl, hF, h => by
    simp only [Region.planB, Bool.and_eq_true] at hB
    obtain ⟨⟨⟨⟨hr, hf⟩, hie⟩, hwe⟩, hB'⟩ := hB
    have hr' : i ∈ Region.ready md ops listed := by simpa using hr
    obtain ⟨hun, o, ho, _⟩ := mem_ready.1 hr'
    have hei : e ≠ i := fun h => by subst h; simp at hie
    unfold wpPlan at h
    simp only [ho] at h
    obtain ⟨v, hy, hK⟩ := h
    have hS : SE e F listed w := by
      cases hb : listed.getD e false with
      | true => exact .inl hb
      | false => rw [hb] at hnd; exact .inr (hF (by rw [hnd]; rfl))
    refine wpAnyM_first (G := fun w => nd = true → F w) (fun listed => nd = (!listed.getD e false) ∧ Closed md ops listed) ho (Region.noSelect_spec hsel) hei (fun c a w => hQ c _ _ w) ?_ ?_ r.len listed a w (Region.free_spec ho hf) hr' ⟨hnd, hcl⟩ hy hS
      (plan_sound hsel hQ r nd _ _ w hB' (by rw [getD_set_ne false (Ne.symm hei)]; exact hnd) (hcl.set hr') hF hK)
    · rintro listed' j ⟨hg, hcl'⟩ hri hrj hji
      refine ⟨?_, hcl'.set hrj⟩
      rw [hg]
      by_cases hje : j = e
      · subst hje
        rw [Bool.or_eq_true, Bool.or_eq_true] at hwe
        rcases hwe with h1 | h1
        · rcases h1 with h2 | h2
          · have h3 : nd = false := by rw [hnd, h2]; rfl
            rw [h3] at hg
            have h4 : listed'.getD j false = true := by cases hb : listed'.getD j false with | true => rfl | false => rw [hb] at hg; cases hg
            have h5 := (mem_ready.1 hrj).1
            rw [getD_both h5] at h4; cases h4
          · obtain ⟨_, oj, hoj, _⟩ := mem_ready.1 hrj
            have := (Array.getElem?_eq_some_iff.1 hoj).1
            have h3 := of_decide_eq_true h2
            omega
        · have h2 := waitsT_listed hcl' 12 j (.inl hrj) h1
          rw [getD_both (mem_ready.1 hri).1] at h2
          cases h2
      · rw [getD_set_ne false hje]
    · rintro listed' w' ⟨hg, _⟩ hS' hnd'
      rcases hS' with h1 | h1
      · rw [h1] at hg; rw [hg] at hnd'; cases hnd'
      · exact h1
/-- **A drawn region, walked by a plan.** -/
theorem wp_region_plan {id : Nat} {a : Act} {w : World} (r : Plan) (e : Nat) (F : World → Prop) (hm : P.follows .mixedOrders = true) (hlen : r.len = ops.size)
    (hB : (Region.noSelect ops && Region.planB .any ops e r (Array.replicate ops.size false)) = true) (hF : F w.drew)
    (h : wpPlan P ops (NoPanic Q) e F true r a w.drew) : (Code.region id ops true).wp P Q a w := by
  rw [Bool.and_eq_true] at hB
  refine wp_region_noPanic (wp_region_any hm (wpAny_of_M (e := e) (F := F) _ _ _ _ ?_))
  have := plan_sound (P := P) (Q := NoPanic Q) (F := F) hB.1 (fun c a b w h => h.elim) r true (Array.replicate ops.size false) a w.drew hB.2 (by rw [getD_replicate_false]; rfl) (Closed.start _) (fun _ => hF) h
  rwa [hlen] at this
end

section
variable {P : Program} {l : List Oper} {Q : Exit → Act → World → Prop} {e : Nat} {F : World → Prop}
theorem wpPlan_step {nd : Bool} {i : Nat} {o : Oper} {r : Plan} {a : Act} {w : World} (C : World → Prop) (hC : ∀ w, (nd = true → F w) → C w) (ho : l[i]? = some o) (hp : pureOp o.op = true)
    (hw : Region.wanted o (yielded l.toArray a.tmps) = true) (h : ∀ K : Act → Prop, (∀ a', wpPlan P l.toArray Q e F nd r a' w → K a') → o.quiet P a C K) : wpPlan P l.toArray Q e F nd (.q i r) a w := by
  obtain ⟨v, h1, h2⟩ := h _ (fun _ h => h)
  unfold wpPlan
  simp only [arr_get ho]
  refine ⟨v, .inl ⟨hw, fun w hF => ?_⟩, h2⟩
  have h3 := h1 w (hC w hF)
  unfold Oper.quietAt at h3
  cases hr : (execOp a.eval o).run P w with
  | halt x w' => rw [hr] at h3; exact h3.elim
  | ok n w' =>
    obtain ⟨u, rfl⟩ := exec_value hp hr
    rw [hr] at h3
    obtain ⟨e1, e2⟩ := h3
    rw [e1, e2]
theorem wpPlan_q {i : Nat} {o : Oper} {r : Plan} {a : Act} {w : World} (ho : l[i]? = some o) (hp : pureOp o.op = true)
    (hw : Region.wanted o (yielded l.toArray a.tmps) = true) (h : ∀ K : Act → Prop, (∀ a', wpPlan P l.toArray Q e F true r a' w → K a') → o.quiet P a F K) : wpPlan P l.toArray Q e F true (.q i r) a w :=
  wpPlan_step F (fun _ h => h rfl) ho hp hw h
theorem wpPlan_p {i : Nat} {o : Oper} {r : Plan} {a : Act} {w : World} (ho : l[i]? = some o) (hp : pureOp o.op = true)
    (hw : Region.wanted o (yielded l.toArray a.tmps) = true) (h : ∀ K : Act → Prop, (∀ a', wpPlan P l.toArray Q e F false r a' w → K a') → o.quiet P a (fun _ => True) K) : wpPlan P l.toArray Q e F false (.q i r) a w :=
  wpPlan_step (fun _ => True) (fun _ _ => trivial) ho hp hw h
theorem wpPlan_act {nd : Bool} {i : Nat} {o : Oper} {r : Plan} {a : Act} {w : World} (nd' : Bool) (hnd : (nd && i != e) = nd') (ho : l[i]? = some o) (hF : Region.wanted o (yielded l.toArray a.tmps) = true)
    (h : ∀ K : Act → World → Prop, (∀ a' w', (nd' = true → F w') → wpPlan P l.toArray Q e F nd' r a' w' → K a' w') → o.wp P a w K Q) : wpPlan P l.toArray Q e F nd (.a1 i r) a w := by
  have h' := h _ (fun a' w' h1 h2 => And.intro h1 h2)
  unfold wpPlan
  simp only [arr_get ho]
  rw [if_pos hF, hnd]
  exact h'
theorem wpPlan_two {nd : Bool} {i j : Nat} {o p : Oper} {r s : Plan} {a : Act} {w : World} (nd' nd'' : Bool) (hnd : (nd && i != e) = nd') (hnd2 : (nd && j != e) = nd'') (ho : l[i]? = some o) (hp : l[j]? = some p) (hF : Region.wanted o (yielded l.toArray a.tmps) = true) (hG : Region.wanted p (yielded l.toArray a.tmps) = true)
    (h : ∀ K : Act → World → Prop, (∀ a' w', (nd' = true → F w') → wpPlan P l.toArray Q e F nd' r a' w' → K a' w') → o.wp P a w K Q)
    (h2 : ∀ K : Act → World → Prop, (∀ a' w', (nd'' = true → F w') → wpPlan P l.toArray Q e F nd'' s a' w' → K a' w') → p.wp P a w K Q) : wpPlan P l.toArray Q e F nd (.a2 i r j s) a w := by
  have h1' := h _ (fun a' w' h1 h2 => And.intro h1 h2)
  have h2' := h2 _ (fun a' w' h1 h2 => And.intro h1 h2)
  unfold wpPlan
  simp only [arr_get ho, arr_get hp]
  rw [if_pos hF, if_pos hG, hnd, hnd2]
  exact ⟨h1', h2'⟩
theorem wpPlan_fin {nd : Bool} {Q' : Exit → Act → World → Prop} {a : Act} {w : World} (h : Q' .normal a w) : wpPlan P l.toArray (NoPanic Q') e F nd .fin a w := h
theorem wpPlan_end {nd : Bool} {K : Act → World → Prop} {a : Act} {w : World} (h : Exit.then K Q .normal a w) : wpPlan P l.toArray (NoPanic (Exit.then K Q)) e F nd .fin a w := h
end
end Go.Proofs.YtlfkiaphmifelaaDoor
