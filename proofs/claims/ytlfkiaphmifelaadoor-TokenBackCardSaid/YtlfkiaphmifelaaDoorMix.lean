/- A region that draws its order: quiet operations in any order, and operations that act, each of which is forced when its turn comes. F: what the quiet ones read; it is to hold until operation e has come up (e beyond the region: throughout). -/
import Derived.Test.YtlfkiaphmifelaaDoorCls
import Derived.OrdersHeld
import Derived.StillTail
import Derived.Deep.RegionHeld3
namespace Go.Proofs.YtlfkiaphmifelaaDoor
open Go.RowKit

section
variable {P : Program} {ops : Array Oper} {Q : Exit → Act → World → Prop} {md : Region.Mode} {e : Nat} {F G : World → Prop}

def SE (e : Nat) (F : World → Prop) (listed : Array Bool) (w : World) : Prop := listed.getD e false = true ∨ F w

def wpAnyM (P : Program) (md : Region.Mode) (ops : Array Oper) (Q : Exit → Act → World → Prop) (e : Nat) (F : World → Prop) : Nat → Array Bool → Act → World → Prop
  | 0, listed, a, w => Region.ready md ops listed = [] ∧ Q .normal a w
  | n + 1, listed, a, w => (Region.ready md ops listed = [] → Q .normal a w) ∧
      ∀ i ∈ Region.ready md ops listed, wpOp P ops Q i (fun a' w' => SE e F (listed.setIfInBounds i true) w' ∧ wpAnyM P md ops Q e F n (listed.setIfInBounds i true) a' w') a w

theorem wpAny_of_M : ∀ (n : Nat) (listed : Array Bool) (a : Act) (w : World), wpAnyM P md ops Q e F n listed a w → wpAny P md ops Q n listed a w
  | 0, _, _, _, h => h
  | n + 1, _, _, _, h => ⟨h.1, fun i hi => wpOp_mono (fun a' w' h' => wpAny_of_M n _ a' w' h'.2) (h.2 i hi)⟩

/-- A quiet operation may be taken first. -/
theorem wpAnyM_first {i : Nat} {oi : Oper} {v : Value} (Good : Array Bool → Prop) (hi : ops[i]? = some oi) (hsel : ∀ (j : Nat) (o : Oper) cs b, ops[j]? = some o → o.op ≠ .select cs b)
    (hei : e ≠ i) (hQ : ∀ c a w, Q (.panic c) (a.put oi.dst v) w → Q (.panic c) a w)
    (hGood : ∀ listed j, Good listed → i ∈ Region.ready md ops listed → j ∈ Region.ready md ops listed → j ≠ i → Good (listed.setIfInBounds j true))
    (hG : ∀ listed w, Good listed → SE e F listed w → G w) :
    ∀ (fuel : Nat) (listed : Array Bool) (a : Act) (w : World),
      (∀ j oj, ops[j]? = some oj → j ≠ i → listed.getD j true = false → (∀ x ∈ oj.after, Region.binds md x = true → x.on ≠ i) → oi.apart ops oj = true) →
      i ∈ Region.ready md ops listed → Good listed → YieldsIf P ops G oi v a → SE e F listed w →
      wpAnyM P md ops Q e F fuel (listed.setIfInBounds i true) (a.put oi.dst v) w → wpAnyM P md ops Q e F (fuel + 1) listed a w := by
  intro fuel
  induction fuel with
  | zero =>
    intro listed a w _ hr hg hy hS H
    refine ⟨fun h => (by rw [h] at hr; cases hr), fun j hj => ?_⟩
    by_cases hji : j = i
    · subst hji; exact hy.wpOp hi (hG _ _ hg hS) ⟨hS.imp getD_set_true id, H⟩
    · have := ready_mono hj hji
      rw [H.1] at this
      cases this
  | succ fuel ih =>
    intro listed a w hfree hr hg hy hS H
    refine ⟨fun h => (by rw [h] at hr; cases hr), fun j hj => ?_⟩
    by_cases hji : j = i
    · subst hji; exact hy.wpOp hi (hG _ _ hg hS) ⟨hS.imp getD_set_true id, H⟩
    · have h1 := H.2 j (ready_mono hj hji)
      obtain ⟨hjun, oj, hoj, hall⟩ := mem_ready.1 hj
      have hnot : ∀ x ∈ oj.after, Region.binds md x = true → x.on ≠ i := fun x hx hb heq => by
        have h1 := hall x hx hb
        rw [heq, getD_both (mem_ready.1 hr).1] at h1
        cases h1
      have h2 := wpOp_putIf hoj (hfree j oj hoj hji hjun hnot) (fun cs b => hsel i oi cs b hi) (fun cs b => hsel j oj cs b hoj) hQ hy h1
      have hfree' : ∀ k ok, ops[k]? = some ok → k ≠ i → (listed.setIfInBounds j true).getD k true = false →
          (∀ x ∈ ok.after, Region.binds md x = true → x.on ≠ i) → oi.apart ops ok = true := fun k ok hk hki hun hno => by
        refine hfree k ok hk hki ?_ hno
        by_cases hjk : j = k
        · subst hjk; exact hjun
        · rw [getD_set_ne true hjk] at hun; exact hun
      have hg' := hGood _ j hg hr hj hji
      refine wpOp_mono (fun a' w' h3 => ?_) h2
      obtain ⟨h4, h5, h6⟩ := h3
      rw [Array.setIfInBounds_comm _ _ (Ne.symm hji)] at h6
      have hS' : SE e F (listed.setIfInBounds j true) w' := by
        rcases h5 with h5 | h5
        · exact .inl (by rw [Array.setIfInBounds_comm _ _ (Ne.symm hji), getD_set_ne false (Ne.symm hei)] at h5; exact h5)
        · exact .inr h5
      exact ⟨hS', ih (listed.setIfInBounds j true) a' w' hfree' (ready_mono hr (Ne.symm hji)) hg' h4 hS' h6⟩

/-- The order in which a region is walked: which operation, and whether it is forced when its turn comes (else: quiet). -/
def wpMix (P : Program) (ops : Array Oper) (Q : Exit → Act → World → Prop) (e : Nat) (F : World → Prop) : Bool → List (Nat × Bool) → Act → World → Prop
  | _, [], a, w => Q .normal a w
  | nd, (i, true) :: r, a, w =>
    match ops[i]? with
    | none => False
    | some o => if Region.wanted o (yielded ops a.tmps) then o.wp P a w (fun a' w' => ((nd && i != e) = true → F w') ∧ wpMix P ops Q e F (nd && i != e) r a' w') Q else wpMix P ops Q e F (nd && i != e) r (a.put o.dst undef) w
  | nd, (i, false) :: r, a, w =>
    match ops[i]? with
    | none => False
    | some o => ∃ v, YieldsIf P ops (fun w => nd = true → F w) o v a ∧ wpMix P ops Q e F nd r (a.put o.dst v) w

def Region.waitsT (md : Region.Mode) (ops : Array Oper) : Nat → Nat → Nat → Bool
  | 0, e, i => Region.waitsFor md ops e i
  | n + 1, e, i => Region.waitsFor md ops e i || (List.range ops.size).any fun j => Region.waitsFor md ops e j && Region.waitsT md ops n j i
def Closed (md : Region.Mode) (ops : Array Oper) (listed : Array Bool) : Prop := ∀ (j : Nat) (oj : Oper), ops[j]? = some oj → listed.getD j false = true → ∀ x ∈ oj.after, Region.binds md x = true → listed.getD x.on false = true
theorem Closed.set {listed : Array Bool} {i : Nat} (h : Closed md ops listed) (hi : i ∈ Region.ready md ops listed) : Closed md ops (listed.setIfInBounds i true) := by
  obtain ⟨_, oi, hoi, hall⟩ := mem_ready.1 hi
  intro j oj hj hl x hx hb
  by_cases hij : i = j
  · subst hij
    have : oj = oi := Option.some.inj (hj.symm.trans hoi)
    subst this
    exact getD_set_true (hall x hx hb)
  · rw [getD_set_ne false hij] at hl
    exact getD_set_true (h j oj hj hl x hx hb)
theorem Closed.start (n : Nat) : Closed md ops (Array.replicate n false) := fun j _ _ h => (by rw [getD_replicate_false] at h; cases h)
theorem waitsT_listed {listed : Array Bool} {i : Nat} (hc : Closed md ops listed) : ∀ (n j : Nat), (j ∈ Region.ready md ops listed ∨ listed.getD j false = true) → Region.waitsT md ops n j i = true → listed.getD i false = true := by
  have one : ∀ j k, (j ∈ Region.ready md ops listed ∨ listed.getD j false = true) → Region.waitsFor md ops j k = true → listed.getD k false = true := fun j k hj hw => by
    obtain ⟨oj, hoj, x, hx, hb, hon⟩ := Region.waitsFor_spec hw
    rw [← hon]
    rcases hj with hj | hj
    · obtain ⟨_, oj', hoj', hall⟩ := mem_ready.1 hj
      have : oj = oj' := Option.some.inj (hoj.symm.trans hoj')
      subst this
      exact hall x hx hb
    · exact hc j oj hoj hj x hx hb
  intro n
  induction n with
  | zero => exact fun j hj hw => one j i hj hw
  | succ n ih =>
    intro j hj hw
    simp only [Region.waitsT, Bool.or_eq_true] at hw
    rcases hw with hw | hw
    · exact one j i hj hw
    · obtain ⟨k, _, hk⟩ := List.any_eq_true.1 hw
      rw [Bool.and_eq_true] at hk
      exact ih k (.inr (one j k hj hk.1)) hk.2

def Region.mixB (md : Region.Mode) (ops : Array Oper) (e : Nat) : List (Nat × Bool) → Array Bool → Bool
  | [], listed => (Region.ready md ops listed).isEmpty
  | (i, true) :: r, listed => decide (Region.ready md ops listed = [i]) && Region.mixB md ops e r (listed.setIfInBounds i true)
  | (i, false) :: r, listed => (Region.ready md ops listed).contains i && Region.free md ops listed i && (i != e) && (listed.getD e false || decide (ops.size ≤ e) || Region.waitsT md ops 3 e i) && Region.mixB md ops e r (listed.setIfInBounds i true)

theorem mix_sound (hsel : Region.noSelect ops = true) (hQ : ∀ c a b w, Q (.panic c) a w → Q (.panic c) b w) : ∀ (r : List (Nat × Bool)) (nd : Bool) (listed : Array Bool) (a : Act) (w : World),
    Region.mixB md ops e r listed = true → (nd = !listed.getD e false) → Closed md ops listed → (nd = true → F w) → wpMix P ops Q e F nd r a w → wpAnyM P md ops Q e F r.length listed a w
  | [], nd, listed, a, w, hB, _, _, _, h => ⟨by simpa [Region.mixB] using hB, h⟩
  | (i, true) :: r, nd, listed, a, w, hB, hnd, hcl, hF, h => by
    simp only [Region.mixB, Bool.and_eq_true, decide_eq_true_eq] at hB
    refine ⟨fun h0 => (by rw [hB.1] at h0; cases h0), fun j hj => ?_⟩
    rw [hB.1] at hj
    have hji : j = i := by simpa using hj
    subst hji
    have hmem : j ∈ Region.ready md ops listed := by rw [hB.1]; simp
    obtain ⟨hun, o, ho, _⟩ := mem_ready.1 hmem
    have hlt : j < listed.size := by
      rcases Nat.lt_or_ge j listed.size with h' | h'
      · exact h'
      · simp [Array.getElem?_eq_none h'] at hun
    have hnd' : (nd && j != e) = !(listed.setIfInBounds j true).getD e false := by
      by_cases hje : j = e
      · subst hje
        have : (listed.setIfInBounds j true).getD j false = true := by simp [hlt]
        rw [this]; simp
      · rw [getD_set_ne false hje, hnd]
        have : (j != e) = true := by simpa using hje
        rw [this, Bool.and_true]
    have hSE : ∀ w', ((nd && j != e) = true → F w') → SE e F (listed.setIfInBounds j true) w' := fun w' hF' => by
      cases hb : (listed.setIfInBounds j true).getD e false with
      | true => exact .inl hb
      | false => rw [hb] at hnd'; exact .inr (hF' (by rw [hnd']; rfl))
    unfold wpMix at h
    simp only [ho] at h
    unfold wpOp
    simp only [ho]
    split at h
    · rename_i hw
      rw [if_pos hw]
      refine .inl (Oper.wp_mono (fun a' w' h' => ?_) h)
      exact ⟨hSE w' h'.1, mix_sound hsel hQ r _ _ a' w' hB.2 hnd' (hcl.set hmem) h'.1 h'.2⟩
    · rename_i hw
      rw [if_neg hw]
      have hF' : (nd && j != e) = true → F w := fun hh => hF (by rw [Bool.and_eq_true] at hh; exact hh.1)
      exact ⟨hSE w hF', mix_sound hsel hQ r _ _ _ w hB.2 hnd' (hcl.set hmem) hF' h⟩
  | (i, false) :: r, nd, listed, a, w, hB, hnd, hcl, hF, h => by
    simp only [Region.mixB, Bool.and_eq_true] at hB
    obtain ⟨⟨⟨⟨hr, hf⟩, hie⟩, hwe⟩, hB'⟩ := hB
    have hr' : i ∈ Region.ready md ops listed := by simpa using hr
    obtain ⟨hun, o, ho, _⟩ := mem_ready.1 hr'
    have hei : e ≠ i := fun h => by subst h; simp at hie
    unfold wpMix at h
    simp only [ho] at h
    obtain ⟨v, hy, hK⟩ := h
    have hS : SE e F listed w := by
      cases hb : listed.getD e false with
      | true => exact .inl hb
      | false => rw [hb] at hnd; exact .inr (hF (by rw [hnd]; rfl))
    refine wpAnyM_first (G := fun w => nd = true → F w) (fun listed => nd = (!listed.getD e false) ∧ Closed md ops listed) ho (Region.noSelect_spec hsel) hei (fun c a w => hQ c _ _ w) ?_ ?_ r.length listed a w (Region.free_spec ho hf) hr' ⟨hnd, hcl⟩ hy hS
      (mix_sound hsel hQ r nd _ _ w hB' (by rw [getD_set_ne false (Ne.symm hei)]; exact hnd) (hcl.set hr') hF hK)
    · rintro listed' j ⟨hg, hcl'⟩ hri hrj hji
      refine ⟨?_, hcl'.set hrj⟩
      rw [hg]
      by_cases hje : j = e
      · subst hje
        rw [Bool.or_eq_true, Bool.or_eq_true] at hwe
        rcases hwe with h1 | h1
        · rcases h1 with h2 | h2
          · have h3 : nd = false := by rw [hnd, h2]; rfl
            rw [h3] at hg
            have h4 : listed'.getD j false = true := by cases hb : listed'.getD j false with | true => rfl | false => rw [hb] at hg; cases hg
            have h5 := (mem_ready.1 hrj).1
            rw [getD_both h5] at h4; cases h4
          · obtain ⟨_, oj, hoj, _⟩ := mem_ready.1 hrj
            have := (Array.getElem?_eq_some_iff.1 hoj).1
            have h3 := of_decide_eq_true h2
            omega
        · have h2 := waitsT_listed hcl' 3 j (.inl hrj) h1
          rw [getD_both (mem_ready.1 hri).1] at h2
          cases h2
      · rw [getD_set_ne false hje]
    · rintro listed' w' ⟨hg, _⟩ hS' hnd'
      rcases hS' with h1 | h1
      · rw [h1] at hg; rw [hg] at hnd'; cases hnd'
      · exact h1

/-- **A drawn region, walked in an order of one's own.** -/
theorem wp_region_mix {id : Nat} {a : Act} {w : World} (r : List (Nat × Bool)) (e : Nat) (F : World → Prop) (hm : P.follows .mixedOrders = true) (hlen : r.length = ops.size)
    (hB : (Region.noSelect ops && Region.mixB .any ops e r (Array.replicate ops.size false)) = true) (hF : F w.drew)
    (h : wpMix P ops (NoPanic Q) e F true r a w.drew) : (Code.region id ops true).wp P Q a w := by
  rw [Bool.and_eq_true] at hB
  refine wp_region_noPanic (wp_region_any hm (wpAny_of_M (e := e) (F := F) _ _ _ _ ?_))
  have := mix_sound (P := P) (Q := NoPanic Q) (F := F) hB.1 (fun c a b w h => h.elim) r true (Array.replicate ops.size false) a w.drew hB.2 (by rw [getD_replicate_false]; rfl) (Closed.start _) (fun _ => hF) h
  rwa [hlen] at this
end

/-- Operations that yield a value and do nothing else. -/
def pureOp : Op → Bool
  | .move _ | .assign _ | .pick .. | .load .. | .nilCheck _ | .binOp .. | .unOp .. | .convert .. | .fieldAddr .. | .field .. | .indexAddr .. | .index .. | .extract .. | .slice .. | .build .. => true
  | .call c => match c.callee with
    | .builtin .len | .builtin .cap | .builtin .min | .builtin .max => true
    | _ => false
  | _ => false

theorem value_of_v {P : Program} {S : Sem Value} {w w' : World} {n : Next} (h : Sem.run P (do pure (Next.value (← S))) w = .ok n w') : ∃ u, n = .value u := by
  rw [Sem.run_bind] at h
  cases hs : S.run P w with
  | ok x w1 => rw [hs] at h; simp only [Result.andThen_ok, Sem.run_pure] at h; cases h; exact ⟨x, rfl⟩
  | halt x w1 => rw [hs] at h; cases h

theorem exec_value {P : Program} {ρ : Operand → Value} {o : Oper} {w w' : World} {n : Next} (hp : pureOp o.op = true) (h : (execOp ρ o).run P w = .ok n w') : ∃ u, n = .value u := by
  unfold execOp at h
  cases ho : o.op with
  | call c =>
    rw [ho] at hp h
    simp only [pureOp] at hp
    cases hc : c.callee with
    | builtin b =>
      rw [hc] at hp
      simp only [resolve, hc, Sem.run_bind, Sem.run_pure, Result.andThen_ok, invoke] at h
      cases b <;> first | (exfalso; simp at hp; done) | (unfold builtin at h; exact value_of_v h)
    | _ => rw [hc] at hp; simp at hp
  | nilCheck x =>
    rw [ho] at h
    simp only at h
    split at h
    · simp [go_sem] at h
    · simp [go_sem] at h
    · simp [go_sem] at h
    · split at h
      · simp [go_sem] at h
      · rw [Sem.run_bind] at h
        cases hs0 : Sem.run P program w with
        | halt x w1 => rw [hs0] at h; cases h
        | ok x0 w0 =>
        rw [hs0] at h
        simp only [Result.andThen_ok] at h
        rw [Sem.run_bind] at h
        rename_i t0 w00 _
        cases hs : Sem.run P (nilAhead (x0.types.size + Made.depth) t0 w00 _) w0 with
        | ok x w1 =>
          rw [hs] at h
          simp only [Result.andThen_ok] at h
          split at h <;> simp [go_sem] at h
          exact ⟨_, h.1.symm⟩
        | halt x w1 => rw [hs] at h; cases h
      · simp only [Sem.run_pure] at h; cases h; exact ⟨_, rfl⟩
    · simp only [Sem.run_pure] at h; cases h; exact ⟨_, rfl⟩
  | move x => rw [ho] at h; simp only [Sem.run_pure] at h; cases h; exact ⟨_, rfl⟩
  | assign x => rw [ho] at h; simp only [Sem.run_pure] at h; cases h; exact ⟨_, rfl⟩
  | pick c x y => rw [ho] at h; exact value_of_v (S := do pure (if ← asBool (ρ c) then ρ x else ρ y)) (by simpa [Sem.run_bind] using h)
  | _ => rw [ho] at hp h; first | (exfalso; simp [pureOp] at hp; done) | exact value_of_v h

section
variable {P : Program} {ops : Array Oper} {l : List Oper} {Q : Exit → Act → World → Prop} {e : Nat} {F : World → Prop}
theorem wpMix_nil {nd : Bool} {a : Act} {w : World} (h : Q .normal a w) : wpMix P ops Q e F nd [] a w := h
theorem wpMix_step {nd : Bool} {i : Nat} {o : Oper} {r : List (Nat × Bool)} {a : Act} {w : World} (C : World → Prop) (hC : ∀ w, (nd = true → F w) → C w) (ho : ops[i]? = some o) (hp : pureOp o.op = true)
    (hw : Region.wanted o (yielded ops a.tmps) = true) (h : ∀ K : Act → Prop, (∀ a', wpMix P ops Q e F nd r a' w → K a') → o.quiet P a C K) : wpMix P ops Q e F nd ((i, false) :: r) a w := by
  obtain ⟨v, h1, h2⟩ := h _ (fun _ h => h)
  unfold wpMix
  simp only [ho]
  refine ⟨v, .inl ⟨hw, fun w hF => ?_⟩, h2⟩
  have h3 := h1 w (hC w hF)
  unfold Oper.quietAt at h3
  cases hr : (execOp a.eval o).run P w with
  | halt x w' => rw [hr] at h3; exact h3.elim
  | ok n w' =>
    obtain ⟨u, rfl⟩ := exec_value hp hr
    rw [hr] at h3
    obtain ⟨e1, e2⟩ := h3
    rw [e1, e2]
theorem arr_get {l : List Oper} {i : Nat} {o : Oper} (h : l[i]? = some o) : l.toArray[i]? = some o := by simpa using h
theorem wpMix_q {i : Nat} {o : Oper} {r : List (Nat × Bool)} {a : Act} {w : World} (ho : l[i]? = some o) (hp : pureOp o.op = true)
    (hw : Region.wanted o (yielded l.toArray a.tmps) = true) (h : ∀ K : Act → Prop, (∀ a', wpMix P l.toArray Q e F true r a' w → K a') → o.quiet P a F K) : wpMix P l.toArray Q e F true ((i, false) :: r) a w :=
  wpMix_step F (fun _ h => h rfl) (arr_get ho) hp hw h
theorem wpMix_p {i : Nat} {o : Oper} {r : List (Nat × Bool)} {a : Act} {w : World} (ho : l[i]? = some o) (hp : pureOp o.op = true)
    (hw : Region.wanted o (yielded l.toArray a.tmps) = true) (h : ∀ K : Act → Prop, (∀ a', wpMix P l.toArray Q e F false r a' w → K a') → o.quiet P a (fun _ => True) K) : wpMix P l.toArray Q e F false ((i, false) :: r) a w :=
  wpMix_step (fun _ => True) (fun _ _ => trivial) (arr_get ho) hp hw h
theorem wpMix_skip {nd : Bool} {i : Nat} {o : Oper} {r : List (Nat × Bool)} {a : Act} {w : World} (ho : l[i]? = some o) (hw : Region.wanted o (yielded l.toArray a.tmps) = false)
    (h : wpMix P l.toArray Q e F nd r (a.put o.dst undef) w) : wpMix P l.toArray Q e F nd ((i, false) :: r) a w := by
  unfold wpMix
  simp only [arr_get ho]
  exact ⟨undef, .inr ⟨hw, rfl⟩, h⟩
theorem wpMix_act {nd : Bool} {i : Nat} {o : Oper} {r : List (Nat × Bool)} {a : Act} {w : World} (nd' : Bool) (hnd : (nd && i != e) = nd') (ho : l[i]? = some o) (hF : Region.wanted o (yielded l.toArray a.tmps) = true)
    (h : ∀ K : Act → World → Prop, (∀ a' w', (nd' = true → F w') → wpMix P l.toArray Q e F nd' r a' w' → K a' w') → o.wp P a w K Q) : wpMix P l.toArray Q e F nd ((i, true) :: r) a w := by
  have h' := h _ (fun a' w' h1 h2 => And.intro h1 h2)
  unfold wpMix
  simp only [arr_get ho]
  rw [if_pos hF, hnd]
  exact h'
theorem wpMix_end {nd : Bool} {K : Act → World → Prop} {a : Act} {w : World} (h : Exit.then K Q .normal a w) : wpMix P l.toArray (NoPanic (Exit.then K Q)) e F nd [] a w := h
end
end Go.Proofs.YtlfkiaphmifelaaDoor
