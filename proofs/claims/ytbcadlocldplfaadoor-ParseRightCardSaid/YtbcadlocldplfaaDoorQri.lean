/- Plain law: what a source's tokens are made of, and what is read out of such tokens: numbers and texts are small. No walk. And what follows from it. -/
import Derived.Deep.QuietTactic
import Derived.BigQuiet
import Derived.Recover
import Derived.Defers
import Derived.Deep.WholeRow
import Derived.Test.YtbcadlocldplfaaDoorQrc
import Derived.Test.YtbcadlocldplfaaDoorQrd
import Derived.Test.YtbcadlocldplfaaDoorQre
import Derived.Test.YtbcadlocldplfaaDoorQrf
import Derived.Test.YtbcadlocldplfaaDoorQrh
set_option linter.unusedSimpArgs false
set_option linter.unusedVariables false
namespace Go.Proofs.YtbcadlocldplfaaDoor
def ZB (x : Tz) : Prop := 0 ≤ x.int ∧ x.int ≤ 9223372036854775807 ∧ x.text.size ≤ 100000
def TwB (x : Tw) : Prop := x.op < 256 ∧ 0 ≤ x.kids ∧ x.kids ≤ 200000 ∧ 0 ≤ x.int ∧ x.int ≤ 9223372036854775807 ∧ x.text.size ≤ 100000
def ZBs (l : List Tz) : Prop := ∀ x ∈ l, ZB x
def TB (t : List Tw) : Prop := ∀ x ∈ t, TwB x
theorem ZBs.tail {l : List Tz} (h : ZBs l) : ZBs l.tail := fun x hx => h x (List.mem_of_mem_tail hx)
theorem TB.one {x : Tw} (h : TwB x) : TB [x] := fun y hy => by
  rw [List.mem_singleton] at hy
  rw [hy]
  exact h
def Bd (f : List Tz → Pr (List Tw)) : Prop := ∀ l t l' m, ZBs l → l.length ≤ 50000 → f l = .ok t l' m → TB t ∧ ZBs l'
theorem tw_b {op : Nat} (h : op < 256) {n : Int} (h0 : 0 ≤ n) (h1 : n ≤ 200000) {s : ByteArray} (hs : s.size ≤ 100000) : TwB ⟨op, n, 0, s⟩ := ⟨h, h0, h1, Int.le_refl 0, show (0 : Int) ≤ 9223372036854775807 by decide, hs⟩
theorem bd_of {x : Tw} {ts : List (List Tw)} {l l' : List Tz} {t : List Tw} {m : Bool} (h : ofP x ts l = .ok t l' m) (hx : TwB ⟨x.op, 0, x.int, x.text⟩) (hn : ts.length ≤ 200000) (hts : ∀ t ∈ ts, TB t) : TB t ∧ l' = l := by
  have hx2 : TwB { x with kids := (ts.length : Nat) } := ⟨hx.1, Int.natCast_nonneg _, by show (ts.length : Int) ≤ _; omega, hx.2.2.2⟩
  unfold ofP at h
  split at h
  · injection h with e1 e2 e3
    subst e1; subst e2
    exact ⟨TB.one hx2, rfl⟩
  · injection h with e1 e2 e3
    subst e1; subst e2
    refine ⟨fun y hy => ?_, rfl⟩
    rcases List.mem_cons.1 hy with rfl | hy
    · exact hx2
    · obtain ⟨t, ht, hy⟩ := List.mem_flatten.1 hy
      exact hts t ht y hy
theorem bd_own {l l' : List Tz} {s : ByteArray} {m : Bool} (h : ownP l = .ok s l' m) (hz : ZBs l) : s.size ≤ 100000 ∧ ZBs l' := by
  obtain ⟨h1, rfl, _⟩ := own_inv h
  refine ⟨?_, hz.tail⟩
  cases l with
  | nil => cases h1
  | cons x r =>
    unfold ownP at h
    rw [if_pos h1] at h
    injection h with e1 e2 e3
    rw [← e1]
    exact (hz x (by simp)).2.2
theorem no_text : (bs []).size ≤ 100000 := by decide
theorem bd_un {f : List Tz → Pr (List Tw)} (hf : Bd f) {x : Tw} (hx : TwB ⟨x.op, 0, x.int, x.text⟩) {l : List Tz} (hz : ZBs l) (hl : l.length ≤ 50000) {t : List Tw} {l' : List Tz} {m : Bool} (h : ((f l).bind fun t l1 => ofP x [t] l1) = .ok t l' m) : TB t ∧ ZBs l' := by
  obtain ⟨u, l1, _, _, h1, h⟩ := bind_inv h
  have h2 := hf _ _ _ _ hz hl h1
  obtain ⟨h3, rfl⟩ := bd_of h hx (by simp) (fun t ht => by rw [List.mem_singleton] at ht; rw [ht]; exact h2.1)
  exact ⟨h3, h2.2⟩
theorem two_tb {t u : List Tw} (h1 : TB t) (h2 : TB u) : ∀ v ∈ [t, u], TB v := fun v hv => by
  simp only [List.mem_cons, List.not_mem_nil, or_false] at hv
  rcases hv with rfl | rfl
  · exact h1
  · exact h2
theorem find_mem {v : List (List UInt8 × Nat)} {f : List UInt8 × Nat → Bool} {p : List UInt8 × Nat} (h : v.find? f = some p) : p ∈ v := List.mem_of_find?_eq_some h
theorem bd_left {f : List Tz → Pr (List Tw)} {v : List (List UInt8 × Nat)} {once : Bool} (hf : Bd f) (he : Eats f) (hv : ∀ p ∈ v, p.2 < 256) : ∀ (n : Nat) (t : List Tw) (l : List Tz) (t' : List Tw) (l' : List Tz) (m : Bool), TB t → ZBs l → l.length ≤ 50000 → leftP f v once n t l = .ok t' l' m → TB t' ∧ ZBs l'
  | 0, _, _, _, _, _, _, _, _, h => by cases h
  | n + 1, t, l, t', l', m, ht, hz, hl, h => by
    rw [leftP] at h
    split at h
    · injection h with e1 e2 e3
      subst e1; subst e2
      exact ⟨ht, hz⟩
    · rename_i p hp
      obtain ⟨u, l1, _, _, h1, h⟩ := bind_inv h
      obtain ⟨t2, l2, _, _, h3, h9⟩ := bind_inv h
      have h4 := hf _ _ _ _ hz.tail (by rw [List.length_tail]; omega) h1
      have h5 := (he _ _ _ _ h1).2
      rw [List.length_tail] at h5
      obtain ⟨h6, rfl⟩ := bd_of h3 (tw_b (hv p (find_mem hp)) (Int.le_refl 0) (by decide) no_text) (by simp) (two_tb ht h4.1)
      rcases ite_inv h9 with ⟨_, h9⟩ | ⟨_, h9⟩
      · injection h9 with e1 e2 e3
        subst e1; subst e2
        exact ⟨h6, h4.2⟩
      · exact bd_left hf he hv n t2 l2 t' l' _ h6 h4.2 (by omega) h9
theorem bd_level {f : List Tz → Pr (List Tw)} (hf : Bd f) (he : Eats f) (v : List (List UInt8 × Nat)) (once : Bool) (hv : ∀ p ∈ v, p.2 < 256) (n : Nat) : Bd (fun l => (f l).bind (leftP f v once n)) := by
  intro l t l' m hz hl h
  obtain ⟨u, l1, _, _, h1, h⟩ := bind_inv h
  have h2 := hf _ _ _ _ hz hl h1
  have h3 := (he _ _ _ _ h1).2
  exact bd_left hf he hv n u l1 t l' _ h2.1 h2.2 (by omega) h
theorem snoc_tb {acc : List (List Tw)} {t : List Tw} (h : ∀ v ∈ acc, TB v) (ht : TB t) : ∀ v ∈ acc ++ [t], TB v := fun v hv => by
  rcases List.mem_append.1 hv with hv | hv
  · exact h v hv
  · rw [List.mem_singleton] at hv; rw [hv]; exact ht
theorem bd_list {f : List Tz → Pr (List Tw)} {s : List UInt8} (hf : Bd f) (he : Eats f) : ∀ (n : Nat) (acc : List (List Tw)) (l : List Tz) (ts : List (List Tw)) (l' : List Tz) (m : Bool), (∀ v ∈ acc, TB v) → acc.length + l.length ≤ 100000 → ZBs l → l.length ≤ 50000 → listP f s n acc l = .ok ts l' m → (∀ v ∈ ts, TB v) ∧ ts.length ≤ 100001 ∧ ZBs l'
  | 0, _, _, _, _, _, _, _, _, _, h => by cases h
  | n + 1, acc, l, ts, l', m, ha, hn, hz, hl, h => by
    rw [listP] at h
    obtain ⟨u, l1, _, _, h1, h⟩ := bind_inv h
    have h4 := hf _ _ _ _ hz hl h1
    have h5 := (he _ _ _ _ h1).2
    rcases ite_inv h with ⟨_, h⟩ | ⟨_, h⟩
    · injection h with e1 e2 e3
      subst e1; subst e2
      exact ⟨snoc_tb ha h4.1, by rw [List.length_append, List.length_singleton]; omega, h4.2.tail⟩
    · obtain ⟨_, l2, _, _, h6, h⟩ := bind_inv h
      obtain ⟨_, rfl, h7⟩ := must_inv h6
      exact bd_list hf he n _ _ ts l' _ (snoc_tb ha h4.1) (by rw [List.length_append, List.length_singleton]; omega) h4.2.tail (by omega) h
theorem bd_lis {f : List Tz → Pr (List Tw)} {s : List UInt8} (hf : Bd f) (he : Eats f) {n : Nat} {l : List Tz} {ts : List (List Tw)} {l' : List Tz} {m : Bool} (hz : ZBs l) (hl : l.length ≤ 50000) (h : lisP f s n l = .ok ts l' m) : (∀ v ∈ ts, TB v) ∧ ts.length ≤ 100001 ∧ ZBs l' := by
  unfold lisP at h
  rcases ite_inv h with ⟨_, h⟩ | ⟨_, h⟩
  · injection h with e1 e2 e3
    subst e1; subst e2
    exact ⟨by simp, by simp, hz.tail⟩
  · exact bd_list hf he n [] l ts l' m (by simp) (by simp; omega) hz hl h
theorem bd_post {f : List Tz → Pr (List Tw)} (hf : Bd f) (he : Eats f) : ∀ (n : Nat) (t : List Tw) (l : List Tz) (t' : List Tw) (l' : List Tz) (m : Bool), TB t → ZBs l → l.length ≤ 50000 → postP f n t l = .ok t' l' m → TB t' ∧ ZBs l'
  | 0, _, _, _, _, _, _, _, _, h => by cases h
  | n + 1, t, l, t', l', m, ht, hz, hl, h => by
    rw [postP] at h
    rcases ite_inv h with ⟨hT, h⟩ | ⟨_, h⟩
    · obtain ⟨u, l1, _, _, h1, h⟩ := bind_inv h
      obtain ⟨t2, l2, _, _, h3, h⟩ := bind_inv h
      obtain ⟨_, l3, _, _, h6, h⟩ := bind_inv h
      have h4 := hf _ _ _ _ hz.tail (by rw [List.length_tail]; omega) h1
      have h5 := (he _ _ _ _ h1).2
      rw [List.length_tail] at h5
      obtain ⟨h8, rfl⟩ := bd_of h3 (tw_b (by decide) (Int.le_refl 0) (by decide) no_text) (by simp) (two_tb ht h4.1)
      obtain ⟨_, rfl, h7⟩ := must_inv h6
      exact bd_post hf he n t2 _ t' l' _ h8 h4.2.tail (by omega) h
    · injection h with e1 e2 e3
      subst e1; subst e2
      exact ⟨ht, hz⟩
theorem bd_stmts {f : List Tz → Pr (List Tw)} (hf : Bd f) (he : Eats f) : ∀ (n : Nat) (acc : List (List Tw)) (l : List Tz) (ts : List (List Tw)) (l' : List Tz) (m : Bool), (∀ v ∈ acc, TB v) → acc.length + l.length ≤ 100000 → ZBs l → l.length ≤ 50000 → stmtsP f n acc l = .ok ts l' m → (∀ v ∈ ts, TB v) ∧ ts.length ≤ 100001 ∧ ZBs l'
  | 0, _, _, _, _, _, _, _, _, _, h => by cases h
  | n + 1, acc, l, ts, l', m, ha, hn, hz, hl, h => by
    rw [stmtsP] at h
    rcases ite_inv h with ⟨_, h⟩ | ⟨_, h⟩
    · injection h with e1 e2 e3
      subst e1; subst e2
      exact ⟨ha, by omega, hz.tail⟩
    · obtain ⟨u, l1, _, _, h1, h⟩ := bind_inv h
      have h4 := hf _ _ _ _ hz hl h1
      have h5 := (he _ _ _ _ h1).2
      exact bd_stmts hf he n _ _ ts l' _ (snoc_tb ha h4.1) (by rw [List.length_append, List.length_singleton]; omega) h4.2 (by omega) h
theorem bd_one {f : List Tz → Pr (List Tw)} (hf : Bd f) {op : Nat} (hop : op < 256) {l : List Tz} (hz : ZBs l) (hl : l.length ≤ 50000) {t : List Tw} {l' : List Tz} {m : Bool} (h : oneP f op l = .ok t l' m) : TB t ∧ ZBs l' := by
  unfold oneP at h
  obtain ⟨_, l1, _, _, h1, h⟩ := bind_inv h
  obtain ⟨_, rfl, h2⟩ := must_inv h1
  obtain ⟨u, l2, _, _, h3, h⟩ := bind_inv h
  have h4 := hf _ _ _ _ hz.tail (by omega) h3
  obtain ⟨_, l3, _, _, h5, h⟩ := bind_inv h
  obtain ⟨_, rfl, _⟩ := must_inv h5
  obtain ⟨h6, rfl⟩ := bd_of h (tw_b hop (Int.le_refl 0) (by decide) no_text) (by simp) (fun t ht => by rw [List.mem_singleton] at ht; rw [ht]; exact h4.1)
  exact ⟨h6, h4.2.tail⟩
theorem bd_ask {f : List Tz → Pr (List Tw)} (hf : Bd f) (he : Eats f) {n op : Nat} (hop : op < 256) {l : List Tz} (hz : ZBs l) (hl : l.length ≤ 50000) {t : List Tw} {l' : List Tz} {m : Bool} (h : askP f n op l = .ok t l' m) : TB t ∧ ZBs l' := by
  unfold askP at h
  obtain ⟨s, l1, _, _, h1, h⟩ := bind_inv h
  have h2 := bd_own h1 hz
  obtain ⟨_, _, h3⟩ := own_inv h1
  obtain ⟨_, l2, _, _, h4, h⟩ := bind_inv h
  obtain ⟨_, rfl, h5⟩ := must_inv h4
  obtain ⟨ts, l3, _, _, h6, h⟩ := bind_inv h
  have h7 := bd_lis hf he h2.2.tail (by omega) h6
  obtain ⟨h8, rfl⟩ := bd_of h (tw_b hop (Int.le_refl 0) (by decide) h2.1) (by omega) h7.1
  exact ⟨h8, h7.2.2⟩
theorem bd_word {expr block : List Tz → Pr (List Tw)} (he : Bd expr) (hb : Bd block) (ee : Eats expr) (n : Nat) : Bd (wordP expr block n) := by
  intro l t l' m hz hl h
  unfold wordP at h
  have hzt := hz.tail
  have hlt : l.tail.length ≤ 50000 := by rw [List.length_tail]; omega
  have lit : ∀ {op : Nat}, op < 256 → Pr.ok [tw op] l.tail false = .ok t l' m → TB t ∧ ZBs l' := fun hop h => by
    injection h with e1 e2 e3
    subst e1; subst e2
    exact ⟨TB.one (tw_b hop (Int.le_refl 0) (by decide) no_text), hzt⟩
  rcases ite_inv h with ⟨_, h⟩ | ⟨_, h⟩; · exact lit (by decide) h
  rcases ite_inv h with ⟨_, h⟩ | ⟨_, h⟩; · exact lit (by decide) h
  rcases ite_inv h with ⟨_, h⟩ | ⟨_, h⟩; · exact lit (by decide) h
  rcases ite_inv h with ⟨_, h⟩ | ⟨_, h⟩; · exact lit (by decide) h
  rcases ite_inv h with ⟨_, h⟩ | ⟨_, h⟩
  · obtain ⟨ts, l3, _, _, h6, h⟩ := bind_inv h
    have h7 := bd_lis he ee hzt hlt h6
    obtain ⟨h8, rfl⟩ := bd_of h (tw_b (by decide) (Int.le_refl 0) (by decide) no_text) (by omega) h7.1
    exact ⟨h8, h7.2.2⟩
  rcases ite_inv h with ⟨_, h⟩ | ⟨_, h⟩
  · obtain ⟨u, l2, _, _, h3, h⟩ := bind_inv h
    have h4 := he _ _ _ _ hzt hlt h3
    obtain ⟨_, l3, _, _, h5, h⟩ := bind_inv h
    obtain ⟨_, rfl, _⟩ := must_inv h5
    injection h with e1 e2 e3
    subst e1; subst e2
    exact ⟨h4.1, h4.2.tail⟩
  rcases ite_inv h with ⟨_, h⟩ | ⟨_, h⟩; · exact bd_one he (by decide) hzt hlt h
  rcases ite_inv h with ⟨_, h⟩ | ⟨_, h⟩; · exact bd_one he (by decide) hzt hlt h
  rcases ite_inv h with ⟨_, h⟩ | ⟨_, h⟩; · exact bd_one he (by decide) hzt hlt h
  rcases ite_inv h with ⟨_, h⟩ | ⟨_, h⟩; · exact bd_one he (by decide) hzt hlt h
  rcases ite_inv h with ⟨_, h⟩ | ⟨_, h⟩; · exact bd_one he (by decide) hzt hlt h
  rcases ite_inv h with ⟨_, h⟩ | ⟨_, h⟩
  · obtain ⟨_, l1, _, _, h1, h⟩ := bind_inv h
    obtain ⟨_, rfl, h2⟩ := must_inv h1
    obtain ⟨u, l2, _, _, h3, h⟩ := bind_inv h
    have h4 := he _ _ _ _ hzt.tail (by omega) h3
    have h5 := (ee _ _ _ _ h3).2
    obtain ⟨_, l3, _, _, h6, h⟩ := bind_inv h
    obtain ⟨_, rfl, h7⟩ := must_inv h6
    obtain ⟨v, l4, _, _, h8, h⟩ := bind_inv h
    have h9 := he _ _ _ _ h4.2.tail (by omega) h8
    obtain ⟨_, l5, _, _, h10, h⟩ := bind_inv h
    obtain ⟨_, rfl, _⟩ := must_inv h10
    obtain ⟨h11, rfl⟩ := bd_of h (tw_b (by decide) (Int.le_refl 0) (by decide) no_text) (by simp) (two_tb h4.1 h9.1)
    exact ⟨h11, h9.2.tail⟩
  rcases ite_inv h with ⟨_, h⟩ | ⟨_, h⟩; · exact bd_un hb (tw_b (by decide) (Int.le_refl 0) (by decide) no_text) hzt hlt h
  rcases ite_inv h with ⟨_, h⟩ | ⟨_, h⟩
  · obtain ⟨s, l1, _, _, h1, h⟩ := bind_inv h
    have h2 := bd_own h1 hzt
    injection h with e1 e2 e3
    subst e1; subst e2
    exact ⟨TB.one (tw_b (by decide) (Int.le_refl 0) (by decide) h2.1), h2.2⟩
  rcases ite_inv h with ⟨_, h⟩ | ⟨_, h⟩; · exact bd_ask he ee (by decide) hzt hlt h
  rcases ite_inv h with ⟨_, h⟩ | ⟨_, h⟩; · exact bd_ask he ee (by decide) hzt hlt h
  cases h
theorem bd_prim {expr block : List Tz → Pr (List Tw)} (he : Bd expr) (hb : Bd block) (ee : Eats expr) (n : Nat) : Bd (primP expr block n) := by
  intro l t l' m hz hl h
  unfold primP at h
  split at h
  · cases h
  · rename_i x r
    have hx := hz x (by simp)
    have hr : ZBs r := hz.tail
    split at h
    · injection h with e1 e2 e3
      subst e1; subst e2
      exact ⟨TB.one ⟨by show 23 < 256; omega, Int.le_refl 0, by show (0 : Int) ≤ 200000; decide, hx.1, hx.2.1, no_text⟩, hr⟩
    · split at h
      · injection h with e1 e2 e3
        subst e1; subst e2
        exact ⟨TB.one (tw_b (by decide) (Int.le_refl 0) (by decide) hx.2.2), hr⟩
      · rcases ite_inv h with ⟨_, h⟩ | ⟨_, h⟩
        · injection h with e1 e2 e3
          subst e1; subst e2
          exact ⟨TB.one (tw_b (by decide) (Int.le_refl 0) (by decide) hx.2.2), hr⟩
        · exact bd_word he hb ee n _ t l' m hz hl h
theorem bd_stmt {expr block : List Tz → Pr (List Tw)} (he : Bd expr) (hb : Bd block) (ee : Eats expr) (eb : Eats block) : Bd (stmtP expr block) := by
  intro l t l' m hz hl h
  unfold stmtP at h
  have hzt := hz.tail
  have hlt : l.tail.length ≤ 50000 := by rw [List.length_tail]; omega
  have set_ : ∀ {op : Nat} {l0 : List Tz}, op < 256 → ZBs l0 → l0.length ≤ 50000 → ((ownP l0).bind fun s l1 => (mustP [61] l1).bind fun _ l2 => (expr l2).bind fun t l3 => ofP ⟨op, 0, 0, s⟩ [t] l3) = .ok t l' m → TB t ∧ ZBs l' := fun hop hz0 hl0 h => by
    obtain ⟨s, l1, _, _, h1, h⟩ := bind_inv h
    have h2 := bd_own h1 hz0
    obtain ⟨_, _, h3⟩ := own_inv h1
    obtain ⟨_, l2, _, _, h4, h⟩ := bind_inv h
    obtain ⟨_, rfl, h5⟩ := must_inv h4
    exact bd_un he (tw_b hop (Int.le_refl 0) (by decide) h2.1) h2.2.tail (by omega) h
  have un : ∀ {op : Nat}, op < 256 → ((expr l.tail).bind fun t l1 => ofP (tw op) [t] l1) = .ok t l' m → TB t ∧ ZBs l' := fun hop h => bd_un he (tw_b hop (Int.le_refl 0) (by decide) no_text) hzt hlt h
  rcases ite_inv h with ⟨_, h⟩ | ⟨_, h⟩; · exact set_ (by decide) hz hl h
  rcases ite_inv h with ⟨_, h⟩ | ⟨_, h⟩; · exact set_ (by decide) hzt hlt h
  rcases ite_inv h with ⟨_, h⟩ | ⟨_, h⟩
  · obtain ⟨c, l1, _, _, h1, h⟩ := bind_inv h
    have h2 := he _ _ _ _ hzt hlt h1
    have h3 := (ee _ _ _ _ h1).2
    obtain ⟨u, l2, _, _, h4, h⟩ := bind_inv h
    have h5 := hb _ _ _ _ h2.2 (by omega) h4
    have h6 := (eb _ _ _ _ h4).2
    rcases ite_inv h with ⟨_, h⟩ | ⟨_, h⟩
    · obtain ⟨v, l3, _, _, h7, h⟩ := bind_inv h
      have h8 := hb _ _ _ _ h5.2.tail (by rw [List.length_tail]; omega) h7
      obtain ⟨h9, rfl⟩ := bd_of h (tw_b (by decide) (Int.le_refl 0) (by decide) no_text) (by simp) (fun w hw => by
        simp only [List.mem_cons, List.not_mem_nil, or_false] at hw
        rcases hw with rfl | rfl | rfl
        · exact h2.1
        · exact h5.1
        · exact h8.1)
      exact ⟨h9, h8.2⟩
    · obtain ⟨h9, rfl⟩ := bd_of h (tw_b (by decide) (Int.le_refl 0) (by decide) no_text) (by simp) (two_tb h2.1 h5.1)
      exact ⟨h9, h5.2⟩
  rcases ite_inv h with ⟨_, h⟩ | ⟨_, h⟩
  · obtain ⟨c, l1, _, _, h1, h⟩ := bind_inv h
    have h2 := he _ _ _ _ hzt hlt h1
    have h3 := (ee _ _ _ _ h1).2
    obtain ⟨u, l2, _, _, h4, h⟩ := bind_inv h
    have h5 := hb _ _ _ _ h2.2 (by omega) h4
    obtain ⟨h9, rfl⟩ := bd_of h (tw_b (by decide) (Int.le_refl 0) (by decide) no_text) (by simp) (two_tb h2.1 h5.1)
    exact ⟨h9, h5.2⟩
  rcases ite_inv h with ⟨_, h⟩ | ⟨_, h⟩; · exact un (by decide) h
  rcases ite_inv h with ⟨_, h⟩ | ⟨_, h⟩; · exact un (by decide) h
  rcases ite_inv h with ⟨_, h⟩ | ⟨_, h⟩; · exact un (by decide) h
  rcases ite_inv h with ⟨_, h⟩ | ⟨_, h⟩; · exact un (by decide) h
  cases h
theorem bd_pre {pre prim expr : List Tz → Pr (List Tw)} (hp : Bd pre) (hq : Bd prim) (he : Bd expr) (eq : Eats prim) (ee : Eats expr) (n : Nat) : Bd (preP pre prim expr n) := by
  intro l t l' m hz hl h
  unfold preP at h
  have hlt : l.tail.length ≤ 50000 := by rw [List.length_tail]; omega
  have un : ∀ {op : Nat}, op < 256 → ((pre l.tail).bind fun t l1 => ofP (tw op) [t] l1) = .ok t l' m → TB t ∧ ZBs l' := fun hop h => bd_un hp (tw_b hop (Int.le_refl 0) (by decide) no_text) hz.tail hlt h
  rcases ite_inv h with ⟨_, h⟩ | ⟨_, h⟩; · exact un (by decide) h
  rcases ite_inv h with ⟨_, h⟩ | ⟨_, h⟩; · exact un (by decide) h
  rcases ite_inv h with ⟨_, h⟩ | ⟨_, h⟩; · exact un (by decide) h
  obtain ⟨u, l1, _, _, h1, h⟩ := bind_inv h
  have h2 := hq _ _ _ _ hz hl h1
  have h3 := (eq _ _ _ _ h1).2
  exact bd_post he ee n u l1 t l' _ h2.1 h2.2 (by omega) h
theorem P_bd : ∀ (n : Nat) (nt : Nt), Bd (P n nt)
  | 0, _ => fun l t l' m _ _ h => by cases h
  | n + 1, nt => by
    have ih := P_bd n
    have el := P_len n
    cases nt with
    | expr => exact bd_level (ih .and_) (el .and_) sOr false (by decide) n
    | and_ => exact bd_level (ih .not_) (el .not_) sAnd false (by decide) n
    | not_ =>
      intro l t l' m hz hl h
      rw [P] at h
      rcases ite_inv h with ⟨_, h⟩ | ⟨_, h⟩
      · exact bd_un (ih .not_) (tw_b (by decide) (Int.le_refl 0) (by decide) no_text) hz.tail (by rw [List.length_tail]; omega) h
      · exact bd_level (ih .sum) (el .sum) sCmp true (by decide) n l t l' m hz hl h
    | sum => exact bd_level (ih .term) (el .term) sSum false (by decide) n
    | term => exact bd_level (ih .pre) (el .pre) sTerm false (by decide) n
    | pre => exact bd_pre (ih .pre) (ih .prim) (ih .expr) (el .prim) (el .expr) n
    | prim => exact bd_prim (ih .expr) (ih .block) (el .expr) n
    | block =>
      intro l t l' m hz hl h
      rw [P] at h
      obtain ⟨_, l1, _, _, h1, h⟩ := bind_inv h
      obtain ⟨_, rfl, h2⟩ := must_inv h1
      obtain ⟨ts, l2, _, _, h3, h⟩ := bind_inv h
      have h4 := bd_stmts (ih .stmt) (el .stmt) n [] _ ts l2 _ (by simp) (by simp; omega) hz.tail (by omega) h3
      obtain ⟨h5, rfl⟩ := bd_of h (tw_b (by decide) (Int.le_refl 0) (by decide) no_text) (by omega) h4.1
      exact ⟨h5, h4.2.2⟩
    | stmt => exact bd_stmt (ih .expr) (ih .block) (el .expr) (el .block)
theorem param_bd : Bd paramP := by
  intro l t l' m hz hl h
  unfold paramP at h
  obtain ⟨s, l1, _, _, h1, h⟩ := bind_inv h
  have h2 := bd_own h1 hz
  injection h with e1 e2 e3
  subst e1; subst e2
  exact ⟨TB.one (tw_b (by decide) (Int.le_refl 0) (by decide) h2.1), h2.2⟩
theorem flow_bd (n : Nat) : Bd (flowP n) := by
  intro l t l' m hz hl h
  unfold flowP at h
  obtain ⟨_, l1, _, _, h1, h⟩ := bind_inv h
  obtain ⟨_, rfl, h2⟩ := must_inv h1
  obtain ⟨s, l2, _, _, h3, h⟩ := bind_inv h
  have h4 := bd_own h3 hz.tail
  obtain ⟨_, _, h5⟩ := own_inv h3
  obtain ⟨_, l3, _, _, h6, h⟩ := bind_inv h
  obtain ⟨_, rfl, h7⟩ := must_inv h6
  obtain ⟨ps, l4, _, _, h8, h⟩ := bind_inv h
  have h9 := bd_lis param_bd paramP_len h4.2.tail (by omega) h8
  have h10 := lisP_len paramP_len h8
  obtain ⟨b, l5, _, _, h11, h⟩ := bind_inv h
  have h12 := P_bd n .block _ _ _ _ h9.2.2 (by omega) h11
  obtain ⟨h13, rfl⟩ := bd_of h (tw_b (show 1 < 256 by decide) (Int.le_refl 0) (by decide) h4.1) (by rw [List.length_append, List.length_singleton]; omega) (snoc_tb h9.1 h12.1)
  exact ⟨h13, h12.2⟩
/-! A source's tokens. -/
def zOf (t : Tok) : Tz := ⟨t.kind, bs t.text, (t.int : Nat), t.place⟩
def TokB (t : Tok) : Prop := t.int ≤ 9223372036854775807 ∧ t.text.length ≤ 100000 ∧ (t.kind = 4 → ∃ c r, t.text = c :: r ∧ c ∈ signs ∧ r.length ≤ 1)
theorem cut_le_len (s : List UInt8) (i j : Nat) : (cutL s i j).length ≤ s.length := by
  unfold cutL
  rw [List.length_drop, List.length_take]
  omega
theorem textN_len (s : List UInt8) (i : Nat) : ∀ (n k : Nat) (b : List UInt8), b.length ≤ 4095 → (textN n s i k b).1.length ≤ 4095
  | 0, k, b, h => by simp [textN]
  | n + 1, k, b, h => by
    unfold textN
    split
    · simp
    · split
      · exact h
      · split
        · simp
        · split
          · simp
          · split
            · simp
            · exact textN_len s i n _ _ (by rw [List.length_append, List.length_singleton]; omega)
theorem oneL_b {s : List UInt8} (hs : s.length ≤ 100000) {i : Nat} {c : UInt8} (hc : s[i]? = some c) {t : Tok} {e : Nat} (h : oneL s i c = .inr (t, e)) : TokB t := by
  have hi := (List.getElem?_eq_some_iff.1 hc).1
  have hci : s[i] = c := by rw [List.getElem?_eq_getElem hi] at hc; injection hc
  unfold oneL at h
  split at h
  · unfold wordL at h
    split at h
    · cases h
    · injection h with h; injection h with h1 h2
      rw [← h1]
      exact ⟨by show 0 ≤ _; omega, by have := cut_le_len s i (scan innB s i); show (cutL s i (scan innB s i)).length ≤ _; omega, fun hh => by cases hh⟩
  · split at h
    · unfold numT at h
      split at h
      · rename_i h0
        obtain ⟨h3, _, h4⟩ := numL_ok h0
        injection h with h; injection h with h1 h2
        rw [← h1]
        exact ⟨by show (numL s i).1 ≤ _; rw [h3]; exact h4, by simp, fun hh => by cases hh⟩
      · cases h
    · split at h
      · unfold textT at h
        split at h
        · injection h with h; injection h with h1 h2
          rw [← h1]
          exact ⟨by show 0 ≤ _; omega, by have := textN_len s i s.length (i + 1) [] (by simp); show (textN s.length s i (i + 1) []).1.length ≤ _; omega, fun hh => by cases hh⟩
        · cases h
      · unfold signL at h
        split at h
        · cases h
        · split at h
          · cases h
          · split at h
            · rename_i hsg
              have e1 : cutL s i (i + 1) = [c] := by rw [cut_next s (Nat.le_refl _) hi, cut_self, hci]; rfl
              split at h
              · rename_i h61
                have h2 := (List.getElem?_eq_some_iff.1 h61.2).1
                injection h with h; injection h with h1 _
                rw [← h1]
                have e2 : cutL s i (i + 2) = [c] ++ [s[i + 1]] := by rw [cut_next s (by omega : i ≤ i + 1) h2, e1]
                exact ⟨by show 0 ≤ _; omega, by show (cutL s i (i + 2)).length ≤ _; rw [e2]; simp, fun _ => ⟨c, [s[i + 1]], e2, hsg, by simp⟩⟩
              · injection h with h; injection h with h1 _
                rw [← h1]
                exact ⟨by show 0 ≤ _; omega, by show (cutL s i (i + 1)).length ≤ _; rw [e1]; simp, fun _ => ⟨c, [], e1, hsg, by simp⟩⟩
            · cases h
theorem allN_b {s : List UInt8} (hs : s.length ≤ 100000) : ∀ (n i : Nat) (acc : List Tok), (∀ t ∈ acc, TokB t) → ∀ t ∈ (allN n s i acc).1, TokB t
  | 0, i, acc, h => h
  | n + 1, i, acc, h => by
    unfold allN
    split
    · exact h
    · rename_i c hc
      split
      · exact allN_b hs n _ acc h
      · split
        · exact allN_b hs n _ acc h
        · split
          · simp
          · rename_i t e ho
            exact allN_b hs n e _ (fun u hu => by
              rcases List.mem_append.1 hu with hu | hu
              · exact h u hu
              · rw [List.mem_singleton] at hu; rw [hu]; exact oneL_b hs hc ho)
theorem allN_count {s : List UInt8} : ∀ (n i : Nat) (acc : List Tok), acc.length ≤ i → i ≤ s.length → (allN n s i acc).1.length ≤ s.length
  | 0, i, acc, h, hi => by show acc.length ≤ _; omega
  | n + 1, i, acc, h, hi => by
    unfold allN
    split
    · show acc.length ≤ _; omega
    · rename_i c hc
      have hlt := (List.getElem?_eq_some_iff.1 hc).1
      split
      · exact allN_count n _ acc (by omega) (by omega)
      · split
        · have h1 := scan_ge notNl s (i + 1)
          exact allN_count n _ acc (by omega) (scan_le notNl s (by omega))
        · split
          · simp
          · rename_i t e ho
            have h1 := oneL_next hc ho
            exact allN_count n e _ (by rw [List.length_append, List.length_singleton]; omega) h1.2
theorem src_b {s : List UInt8} (hs : s.length ≤ 100000) : (∀ t ∈ (srcL s).1, TokB t) ∧ (srcL s).1.length ≤ 16384 := by
  unfold srcL
  split
  · simp
  · exact ⟨allN_b hs s.length 0 [] (by simp), by have := allN_count (s := s) s.length 0 [] (by simp) (by omega); show (allN s.length s 0 []).1.length ≤ _; omega⟩
theorem kw_letters : ∀ s ∈ kw28, ∀ c r, s = c :: r → c ∉ signs := by
  intro s hs c r h
  have : ∀ s ∈ kw28, ∀ c ∈ s.head?, c ∉ signs := by decide
  exact this s hs c (by rw [h]; rfl)
theorem zOf_b {t : Tok} (h : TokB t) : ZB (zOf t) ∧ ((zOf t).kind = 4 → kwB (zOf t).text = false) := by
  refine ⟨⟨Int.natCast_nonneg _, by have := h.1; show (t.int : Int) ≤ _; omega, by show (bs t.text).size ≤ _; exact h.2.1⟩, fun hk => ?_⟩
  obtain ⟨c, r, h1, h2, _⟩ := h.2.2 hk
  show kwB (bs t.text) = false
  unfold kwB
  refine decide_eq_false (fun hm => ?_)
  have e : (bs t.text).data.toList = t.text := by simp [bs]
  rw [e] at hm
  exact kw_letters _ hm c r h1 h2
theorem src_z {s : List UInt8} (hs : s.length ≤ 100000) : ZBs ((srcL s).1.map zOf) ∧ GoodT ((srcL s).1.map zOf) ∧ ((srcL s).1.map zOf).length ≤ 16384 := by
  have h := src_b hs
  refine ⟨fun x hx => ?_, fun x hx => ?_, by rw [List.length_map]; exact h.2⟩
  · obtain ⟨t, ht, rfl⟩ := List.mem_map.1 hx
    exact (zOf_b (h.1 t ht)).1
  · obtain ⟨t, ht, rfl⟩ := List.mem_map.1 hx
    exact (zOf_b (h.1 t ht)).2
end Go.Proofs.YtbcadlocldplfaaDoor
namespace Go.Proofs.YtbcadlocldplfaaDoor
open Go.RowKit
def endT (size : Nat) : Pr (List Tw) → List Tw × Nat × Int
  | .out => ([], 0, 0)
  | .bad l => ([], (faultAt size l).1, ((faultAt size l).2 : Nat))
  | .ok t l m => if l.isEmpty then (if m || decide ((T8.chk t).2 ≠ 0) then ([], 0, 2) else (t, 0, 0)) else ([], (faultAt size l).1, ((faultAt size l).2 : Nat))
def readF (n : Nat) (fl : Bool) (l : List Tz) : Pr (List Tw) := if fl then flowP n l else P n .expr l
def srcT (n : Nat) (fl : Bool) (s : List UInt8) : List Tw × Nat × Int :=
  if (srcL s).2.2 = 0 then endT s.length (readF n fl ((srcL s).1.map zOf)) else ([], (srcL s).2.1, ((srcL s).2.2 : Nat))
def TrePost (w : World) (R : List Tw × Nat × Int) (e : Ending) (w' : World) : Prop :=
  ∃ A n c, e = .returned (.tuple #[.slice A n c, .int .i64 (R.2.1 : Nat), .int .i64 R.2.2]) ∧ Od w w' A n c R.1 ∧ R.1.length ≤ 2048 ∧ Below w.heap.size w w'
def N0 : Nat := 170000
theorem readF_ne (fl : Bool) {s : List UInt8} (hs : s.length ≤ 100000) : readF N0 fl ((srcL s).1.map zOf) ≠ .out := by
  have h := (src_z hs).2.2
  unfold readF
  cases fl with
  | true => exact flowP_end (by unfold N0; omega)
  | false => exact P_end N0 .expr _ (by simp only [rank]; unfold N0; omega)
theorem readF_bd (n : Nat) (fl : Bool) : Bd (readF n fl) := by
  cases fl with
  | true => exact flow_bd n
  | false => exact P_bd n .expr
theorem tcells_z (l : List Tok) : tcells l = rowOf zcell (l.map zOf) := by
  unfold tcells rowOf
  rw [List.flatMap_map]
  rfl
theorem rdw_of {w : World} {A : Option Addr} {t : List Tw} (h : RdL twcell 4 w A t) : T8.RdW w A t := by
  rcases h with h | ⟨b, off, hA, hb, hat⟩
  · exact .inl h
  · refine .inr ⟨b, off, hA, hb, fun k x hx => ?_⟩
    have key := fun j v hv => hat k x hx j v hv
    exact ⟨key 0 _ rfl, key 1 _ rfl, key 2 _ rfl, key 3 _ rfl⟩
theorem twok_of {t : List Tw} (h : TB t) : ∀ x ∈ t, T8.TwOk x := fun x hx => by
  have h1 := h x hx
  refine ⟨h1.1, ?_, ?_, ?_, h1.2.2.2.2.1, ?_⟩
  · have := h1.2.1; omega
  · have := h1.2.2.1; omega
  · have := h1.2.2.2.1; omega
  · have := h1.2.2.2.2.2; unfold maxLen; omega
theorem rdz_own {w : World} {base n c : Nat} {A : Option Addr} {l : List Tok} (h : w.ownsRow base 35 4 (.slice A n c) n (tcells l)) (hn : n = (l.map zOf).length) : RdZ w A (l.map zOf) := by
  rw [tcells_z] at h
  exact RdL.of_own zcell_len h hn
end Go.Proofs.YtbcadlocldplfaaDoor
namespace Go.Proofs.YtbcadlocldplfaaDoor.T8
set_option maxRecDepth 100000
open Go.RowKit
end Go.Proofs.YtbcadlocldplfaaDoor.T8
namespace Go.Proofs.YtbcadlocldplfaaDoor
open Go.RowKit
structure V3 (w : World) (a b c : Nat) (x y z : Value) : Prop where
  x : Blk w a 23 #[x]
  y : Blk w b 3 #[y]
  z : Blk w c 25 #[z]
theorem V3.chg {T : Nat → Prop} {w w' : World} {a b c : Nat} {x y z : Value} (h : V3 w a b c x y z) (hc : Chg T w w') (h1 : ¬ T a) (h2 : ¬ T b) (h3 : ¬ T c) : V3 w' a b c x y z :=
  ⟨h.x.chg hc h1, h.y.chg hc h2, h.z.chg hc h3⟩
theorem V3.below {w w' : World} {a b c : Nat} {x y z : Value} (h : V3 w a b c x y z) (hb : Below w.heap.size w w') : V3 w' a b c x y z := h.chg (T := fun _ => False) (.of_below hb) id id id
theorem V3.ne {w : World} {a b c : Nat} {x y z : Value} (h : V3 w a b c x y z) : a ≠ b ∧ a ≠ c ∧ b ≠ c := ⟨h.x.ne_ h.y (by decide), h.x.ne_ h.z (by decide), h.y.ne_ h.z (by decide)⟩
theorem V3.setx {w : World} {a b c : Nat} {x y z : Value} (h : V3 w a b c x y z) (v : Value) : V3 (w.setCell ⟨a, 0, none⟩ v) a b c v y z :=
  ⟨by have := h.x.set_ 0 v; simpa using this, Blk.far (p := ⟨a, 0, none⟩) h.y (fun e => h.ne.1 e.symm) v, Blk.far (p := ⟨a, 0, none⟩) h.z (fun e => h.ne.2.1 e.symm) v⟩
theorem V3.sety {w : World} {a b c : Nat} {x y z : Value} (h : V3 w a b c x y z) (v : Value) : V3 (w.setCell ⟨b, 0, none⟩ v) a b c x v z :=
  ⟨Blk.far (p := ⟨b, 0, none⟩) h.x h.ne.1 v, by have := h.y.set_ 0 v; simpa using this, Blk.far (p := ⟨b, 0, none⟩) h.z (fun e => h.ne.2.2 e.symm) v⟩
theorem V3.setz {w : World} {a b c : Nat} {x y z : Value} (h : V3 w a b c x y z) (v : Value) : V3 (w.setCell ⟨c, 0, none⟩ v) a b c x y v :=
  ⟨Blk.far (p := ⟨c, 0, none⟩) h.x h.ne.2.1 v, Blk.far (p := ⟨c, 0, none⟩) h.y h.ne.2.2 v, by have := h.z.set_ 0 v; simpa using this⟩
theorem catch_idle (p q r : Addr) (w : World) :
    CallsD Tryd.prog 68 #[.pointer (some p), .pointer (some q), .pointer (some r)] .returning w fun e u' w' => e = .returned (.tuple #[]) ∧ u' = .returning ∧ w' = w := by
  refine callsD_of_wpS Tryd.func68 rfl fun c₀ cs hu => ?_
  apply wpS_seq
  apply wpS_region
  simp [wpOpsS, go_sem, recoverD, hu, Tryd.ntmps68, Exit.thenS]
  apply wpS_seq
  apply wpS_region
  simp [wpOpsS, go_sem, Exit.thenS]
  refine wpS_cond (t := false) (by simp [Act.eval, Array.replicate]) ?_
  simp only [Bool.false_eq_true, if_false]
  refine wpS_of_wp (wp_skip ?_)
  cases c₀
  simp_all [bodyPostS, results, Tryd.results68]
theorem wp_tmps {P : Program} {c : Code} {Q : Exit → Act → World → Prop} {T T' : Array Value} {ds : List Deferred} {w : World} (h : T = T') (hw : c.wp P Q { tmps := T', defers := ds } w) : c.wp P Q { tmps := T, defers := ds } w := by
  rw [h]
  exact hw
set_option maxRecDepth 100000 in
theorem catch_panicking (a b c : Nat) (x y z : Value) (f : Nat × Nat) (older : List PanicEntry) (w : World) (hv : V3 w a b c x y z) :
    CallsD Tryd.prog 68 #[.pointer (some ⟨a, 0, none⟩), .pointer (some ⟨b, 0, none⟩), .pointer (some ⟨c, 0, none⟩)] (.panicking ({ v := wrongV f, recovered := false } :: older)) w fun e u' w' =>
      e = .returned (.tuple #[]) ∧ u' = .panicking ({ v := wrongV f, recovered := true } :: older) ∧ V3 w' a b c (.slice none 0 0) (.int .i64 (f.1 : Nat)) (.int .i64 (f.2 : Nat)) ∧ Chg (fun k => k = a ∨ k = b ∨ k = c) w w' := by
  obtain ⟨f1, f2⟩ := f
  have hta : ∀ W, (Instr.typeAssert (.iface 103 (.agg #[.int .i64 (f1 : Nat), .int .i64 (f2 : Nat)])) 20 103 true).run Tryd.prog W = .ok (.tuple #[.agg #[.int .i64 (f1 : Nat), .int .i64 (f2 : Nat)], .bool true]) W := fun _ => by kernel_rfl
  unfold wrongV
  try dsimp only
  refine callsD_of_wpS Tryd.func68 rfl fun c₀ cs hu => ?_
  unfold wrongV at hu
  try dsimp only at hu
  apply wpS_seq
  apply wpS_region
  simp [wpOpsS, go_sem, recoverD, hu, Tryd.ntmps68, Exit.thenS]
  apply wpS_seq
  apply wpS_region
  simp [wpOpsS, go_sem, Exit.thenS]
  refine wpS_cond (t := true) (by simp [Act.eval, Array.replicate]) ?_
  simp only [if_true]
  refine wpS_of_wp (wp_tmps (T' := #[.pointer (some ⟨a, 0, none⟩), .pointer (some ⟨b, 0, none⟩), .pointer (some ⟨c, 0, none⟩), .iface 103 (.agg #[.int .i64 (f1 : Nat), .int .i64 (f2 : Nat)]), undef, undef, .iface 103 (.agg #[.int .i64 (f1 : Nat), .int .i64 (f2 : Nat)]), .iface 103 (.agg #[.int .i64 (f1 : Nat), .int .i64 (f2 : Nat)]), .bool true, undef, undef, undef, undef, undef, undef, undef, undef, undef, undef, undef, undef]) (by kernel_rfl) ?_)
  have HV := Lib.hid hv
  clear hv
  go_upto_region 3 with (first | (refine wpList_store_row rfl 103 (.tmp 4) (.tmp 12) rfl w.heap.size #[.int .i64 (f1 : Nat), .int .i64 (f2 : Nat)] rfl rfl 103 #[.int .i64 0, .int .i64 0] (Blk.new w _ _) (by kernel_rfl) rfl (by kernel_rfl) ?_; rw [World.setRow_alloc_new]) | fail)
  obtain ⟨bx, hbx⟩ : ∃ z, z = w.heap.size := ⟨_, rfl⟩
  have H1 : Hid (Blk (w.alloc (.cells #[.int .i64 (f1 : Nat), .int .i64 (f2 : Nat)] 103)) bx 103 #[.int .i64 (f1 : Nat), .int .i64 (f2 : Nat)] ∧ V3 (w.alloc (.cells #[.int .i64 (f1 : Nat), .int .i64 (f2 : Nat)] 103)) a b c x y z ∧ Chg (fun k => k = a ∨ k = b ∨ k = c) w (w.alloc (.cells #[.int .i64 (f1 : Nat), .int .i64 (f2 : Nat)] 103))) := Lib.hid ⟨by rw [hbx]; exact Blk.new w _ _, HV.out.below ((Below.refl _ _).alloc (Nat.le_refl _) _), (Chg.refl _ _).alloc _⟩
  try rw [← hbx]
  clear hbx HV
  generalize w.alloc (.cells #[.int .i64 (f1 : Nat), .int .i64 (f2 : Nat)] 103) = w1 at *
  go_wp2_with fail
  refine wp_region_plan (.q 0 (.q 1 (.q 2 (.q 3 (.a1 4 (.a1 5 (.a1 6 .fin))))))) 7 (fun W => Blk W bx 103 #[.int .i64 (f1 : Nat), .int .i64 (f2 : Nat)]) (by kernel_rfl) rfl (by kernel_rfl) H1.out.1.drew ?_
  have HVa : Hid (V3 w1.drew a b c x y z ∧ Chg (fun k => k = a ∨ k = b ∨ k = c) w w1.drew) := Lib.hid ⟨H1.out.2.1.below ((Below.refl _ _).drew), H1.out.2.2.drew⟩
  have HXd : Hid (Blk w1.drew bx 103 #[.int .i64 (f1 : Nat), .int .i64 (f2 : Nat)] ∧ bx ≠ a ∧ bx ≠ b ∧ bx ≠ c) := Lib.hid ⟨H1.out.1.drew, H1.out.1.ne_ H1.out.2.1.x (by decide), H1.out.1.ne_ H1.out.2.1.y (by decide), H1.out.1.ne_ H1.out.2.1.z (by decide)⟩
  generalize w1.drew = wd at *
  refine wpPlan_q rfl rfl rfl ?_; intro K hK
  go_big_quiet_op
  first | go_big_quiet_on | (refine ⟨_, fun _ _ => rfl, ?_⟩; go_big_quiet_on)
  refine wpPlan_q rfl rfl rfl ?_; intro K hK
  refine ⟨.int .i64 (f1 : Nat), fun W hW => ?_, ?_⟩
  · have q0 := hW.cell 0
    unfold Oper.quietAt Oper.quietUpon
    simp [go_sem, q0]
  refine hK _ ?_
  clear hK K
  try simp only [Act.put, List.setIfInBounds_toArray, List.set_cons_succ, List.set_cons_zero]
  refine wpPlan_q rfl rfl rfl ?_; intro K hK
  go_big_quiet_op
  first | go_big_quiet_on | (refine ⟨_, fun _ _ => rfl, ?_⟩; go_big_quiet_on)
  refine wpPlan_q rfl rfl rfl ?_; intro K hK
  refine ⟨.int .i64 (f2 : Nat), fun W hW => ?_, ?_⟩
  · have q0 := hW.cell 1
    unfold Oper.quietAt Oper.quietUpon
    simp [go_sem, q0]
  refine hK _ ?_
  clear hK K
  try simp only [Act.put, List.setIfInBounds_toArray, List.set_cons_succ, List.set_cons_zero]
  have g4 : (wd).frozen? ⟨a, 0, none⟩ = false := HVa.out.1.x.frozen 0
  have k4 : (wd).cell? ⟨a, 0, none⟩ = some x := HVa.out.1.x.cell 0
  have HVa2 : Hid (V3 ((wd).setCell ⟨a, 0, none⟩ (Value.slice none 0 0)) a b c (Value.slice none 0 0) y z ∧ Chg (fun k => k = a ∨ k = b ∨ k = c) w ((wd).setCell ⟨a, 0, none⟩ (Value.slice none 0 0))) := Lib.hid ⟨HVa.out.1.setx _, HVa.out.2.setCell (p := ⟨a, 0, none⟩) (.inl rfl) _⟩
  have HX0 : Hid (Blk ((wd).setCell ⟨a, 0, none⟩ (Value.slice none 0 0)) bx 103 #[.int .i64 (f1 : Nat), .int .i64 (f2 : Nat)] ∧ bx ≠ a ∧ bx ≠ b ∧ bx ≠ c) := Lib.hid ⟨Blk.far (p := ⟨a, 0, none⟩) HXd.out.1 HXd.out.2.1 _, HXd.out.2⟩
  refine wpPlan_act true rfl rfl rfl ?_; intro K hK
  go_simp
  refine hK _ _ (fun _ => HX0.out.1) ?_
  clear hK K
  try simp only [Act.put, List.setIfInBounds_toArray, List.set_cons_succ, List.set_cons_zero]
  have HXd := HX0
  generalize (wd).setCell ⟨a, 0, none⟩ (Value.slice none 0 0) = wv0 at *
  clear g4 k4 HVa
  have g5 : (wv0).frozen? ⟨b, 0, none⟩ = false := HVa2.out.1.y.frozen 0
  have k5 : (wv0).cell? ⟨b, 0, none⟩ = some y := HVa2.out.1.y.cell 0
  have HVb2 : Hid (V3 ((wv0).setCell ⟨b, 0, none⟩ (Value.int .i64 (f1 : Nat))) a b c (Value.slice none 0 0) (Value.int .i64 (f1 : Nat)) z ∧ Chg (fun k => k = a ∨ k = b ∨ k = c) w ((wv0).setCell ⟨b, 0, none⟩ (Value.int .i64 (f1 : Nat)))) := Lib.hid ⟨HVa2.out.1.sety _, HVa2.out.2.setCell (p := ⟨b, 0, none⟩) (.inr (.inl rfl)) _⟩
  have HX1 : Hid (Blk ((wv0).setCell ⟨b, 0, none⟩ (Value.int .i64 (f1 : Nat))) bx 103 #[.int .i64 (f1 : Nat), .int .i64 (f2 : Nat)] ∧ bx ≠ a ∧ bx ≠ b ∧ bx ≠ c) := Lib.hid ⟨Blk.far (p := ⟨b, 0, none⟩) HXd.out.1 HXd.out.2.2.1 _, HXd.out.2⟩
  refine wpPlan_act true rfl rfl rfl ?_; intro K hK
  go_simp
  refine hK _ _ (fun _ => HX1.out.1) ?_
  clear hK K
  try simp only [Act.put, List.setIfInBounds_toArray, List.set_cons_succ, List.set_cons_zero]
  have HXd := HX1
  generalize (wv0).setCell ⟨b, 0, none⟩ (Value.int .i64 (f1 : Nat)) = wv1 at *
  clear g5 k5 HVa2
  have g6 : (wv1).frozen? ⟨c, 0, none⟩ = false := HVb2.out.1.z.frozen 0
  have k6 : (wv1).cell? ⟨c, 0, none⟩ = some z := HVb2.out.1.z.cell 0
  have HVc2 : Hid (V3 ((wv1).setCell ⟨c, 0, none⟩ (Value.int .i64 (f2 : Nat))) a b c (Value.slice none 0 0) (Value.int .i64 (f1 : Nat)) (Value.int .i64 (f2 : Nat)) ∧ Chg (fun k => k = a ∨ k = b ∨ k = c) w ((wv1).setCell ⟨c, 0, none⟩ (Value.int .i64 (f2 : Nat)))) := Lib.hid ⟨HVb2.out.1.setz _, HVb2.out.2.setCell (p := ⟨c, 0, none⟩) (.inr (.inr rfl)) _⟩
  have HX2 : Hid (Blk ((wv1).setCell ⟨c, 0, none⟩ (Value.int .i64 (f2 : Nat))) bx 103 #[.int .i64 (f1 : Nat), .int .i64 (f2 : Nat)] ∧ bx ≠ a ∧ bx ≠ b ∧ bx ≠ c) := Lib.hid ⟨Blk.far (p := ⟨c, 0, none⟩) HXd.out.1 HXd.out.2.2.2 _, HXd.out.2⟩
  refine wpPlan_act true rfl rfl rfl ?_; intro K hK
  go_simp
  refine hK _ _ (fun _ => HX2.out.1) ?_
  clear hK K
  try simp only [Act.put, List.setIfInBounds_toArray, List.set_cons_succ, List.set_cons_zero]
  have HXd := HX2
  generalize (wv1).setCell ⟨c, 0, none⟩ (Value.int .i64 (f2 : Nat)) = wv2 at *
  clear g6 k6 HVb2
  refine wpPlan_fin ?_
  refine ⟨rfl, .panicking ({ v := .iface 103 (.agg #[.int .i64 (f1 : Nat), .int .i64 (f2 : Nat)]), recovered := true } :: older), ?_, .tuple #[], ?_, rfl, rfl, HVc2.out⟩
  · cases c₀
    simp_all
  · simp [results, Tryd.results68]
abbrev T3 (a b c : Nat) : Nat → Prop := fun k => k = a ∨ k = b ∨ k = c
abbrev w3of (w : World) : World := ((w.alloc (.cells #[.slice none 0 0] 23)).alloc (.cells #[.int .i64 0] 3)).alloc (.cells #[.int .i64 0] 25)
theorem w3of_v3 (w : World) : V3 (w3of w) w.heap.size (w.heap.size + 1) (w.heap.size + 1 + 1) (.slice none 0 0) (.int .i64 0) (.int .i64 0) ∧ Below w.heap.size w (w3of w) ∧ (w3of w).heap.size = w.heap.size + 3 := by
  have s1 : (w.alloc (.cells #[.slice none 0 0] 23)).heap.size = w.heap.size + 1 := by simp
  have s2 : ((w.alloc (.cells #[.slice none 0 0] 23)).alloc (.cells #[.int .i64 0] 3)).heap.size = w.heap.size + 1 + 1 := by simp
  refine ⟨⟨((Blk.new w _ _).alloc _).alloc _, ?_, ?_⟩, ((((Below.refl _ _).alloc (Nat.le_refl _) _).alloc (by simp) _).alloc (by simp; omega) _), by simp⟩
  · have h := (Blk.new (w.alloc (.cells #[.slice none 0 0] 23)) 3 #[.int .i64 0]).alloc (.cells #[.int .i64 0] 25)
    rw [s1] at h
    exact h
  · have h := Blk.new ((w.alloc (.cells #[.slice none 0 0] 23)).alloc (.cells #[.int .i64 0] 3)) 25 #[.int .i64 0]
    rw [s2] at h
    exact h
theorem abc_le {a b c N k : Nat} {X : Prop} (h : N ≤ a ∧ N ≤ b ∧ N ≤ c ∧ X) (hk : T3 a b c k) : N ≤ k := by
  rcases hk with h1 | h1 | h1
  · rw [h1]; exact h.1
  · rw [h1]; exact h.2.1
  · rw [h1]; exact h.2.2.1
theorem rd_not {w : World} {a : Nat} {v : Value} {A : Option Addr} {l : List Tz} (hb : Blk w a 23 #[v]) (hv : ∀ (k : Int), v ≠ .int .u8 k) (hr : RdZ w A l) {x : Addr} (hx : A = some x) (hl : l ≠ []) (hk : x.block = a) : False := by
  rcases hr with h | ⟨bk, off, hA, _, hat⟩
  · exact hl h
  · cases l with
    | nil => exact hl rfl
    | cons y r =>
      rw [hA] at hx
      have hx2 := Option.some.inj hx
      subst hx2
      have hk2 : bk = a := hk
      subst hk2
      have h1 := hat 0 y rfl 0 _ rfl
      rw [hb.cell] at h1
      have h2 := (Array.getElem?_eq_some_iff.1 h1)
      obtain ⟨h3, h4⟩ := h2
      have h5 : off + 0 * 4 + 0 = 0 := by
        have : off + 0 * 4 + 0 < 1 := h3
        omega
      simp only [h5] at h4
      exact hv _ h4
theorem flowP_small {n : Nat} {l l' : List Tz} {t : List Tw} {m : Bool} (h : flowP n l = .ok t l' m) : t.length ≤ 2048 := by
  unfold flowP at h
  obtain ⟨_, _, _, _, _, h⟩ := bind_inv h
  obtain ⟨_, _, _, _, _, h⟩ := bind_inv h
  obtain ⟨_, _, _, _, _, h⟩ := bind_inv h
  obtain ⟨_, _, _, _, _, h⟩ := bind_inv h
  obtain ⟨_, _, _, _, _, h⟩ := bind_inv h
  exact (of_inv h).1
set_option maxRecDepth 100000 in
set_option maxHeartbeats 16000000 in
theorem all_any2 (n : Nat) (fl : Bool) (FN : FuncId) (hcf : ∀ (args : Array Value) (W : World), (callFunc FN args).run Tryd.prog W = .ok (.enter FN args) W)
    (hcall : ∀ (g size : Nat) (W : World) (L : List Tz), RdM W g L size false → readF n fl L ≠ .out → Calls Tryd.prog FN #[gp g] W (PPost W g size false (readF n fl L)))
    (hsm : ∀ L t l m, readF n fl L = .ok t l m → t.length ≤ 2048) (s : List UInt8) (hs : s.length ≤ 100000) (hne : readF n fl ((srcL s).1.map zOf) ≠ .out) (w : World) :
    Calls Tryd.prog 31 #[.string ⟨s.toArray⟩, .func (.func FN) #[] #[]] w (TrePost w (srcT n fl s)) := by
  have hmf : ∀ (fn : Fn) (first cap : Array Value) (w : World), (Instr.makeFunc fn first cap).run Tryd.prog w = .ok (.func fn first cap) w := fun _ _ _ _ => rfl
  obtain ⟨hz, hg, hln⟩ := src_z hs
  have HA := Lib.hid (fun W => all_any s hs W)
  obtain ⟨st, hst⟩ : ∃ st : ByteArray, st = ⟨s.toArray⟩ := ⟨_, rfl⟩
  have hsz : st.size = s.length := by rw [hst]; rfl
  rw [← hst] at HA ⊢
  obtain ⟨sz, hsz2⟩ : ∃ z, z = s.length := ⟨_, rfl⟩
  rw [← hsz2] at hsz
  obtain ⟨R, hR⟩ : ∃ R, R = srcT n fl s := ⟨_, rfl⟩
  have he : R = if (srcL s).2.2 = 0 then endT sz (readF n fl ((srcL s).1.map zOf)) else ([], (srcL s).2.1, ((srcL s).2.2 : Nat)) := by rw [hR, hsz2]; rfl
  rw [← hR]
  clear hR hst hsz2
  obtain ⟨toks, hlt⟩ : ∃ z, z = (srcL s).1 := ⟨_, rfl⟩
  obtain ⟨q, hq⟩ : ∃ z, z = (srcL s).2.1 := ⟨_, rfl⟩
  obtain ⟨er, her⟩ : ∃ z, z = (srcL s).2.2 := ⟨_, rfl⟩
  rw [← hlt, ← hq, ← her] at he
  rw [← hlt] at hz hg hln hne
  unfold AllPost at HA
  rw [← hlt, ← hq, ← her] at HA
  obtain ⟨L, hL⟩ : ∃ z, z = toks.map zOf := ⟨_, rfl⟩
  have hll : toks.length = L.length := by rw [hL, List.length_map]
  rw [hll] at HA
  rw [← hL] at he hz hg hln hne
  have HLL := Lib.hid hL
  have HE := Lib.hid he
  have HZ := Lib.hid hz
  have HN := Lib.hid hne
  obtain ⟨ln, hlnn⟩ : ∃ z, z = L.length := ⟨_, rfl⟩
  have HLN := Lib.hid hlnn
  rw [← hlnn] at hln HA
  clear hlt hq her he hz hg hL hll hlnn hne
  obtain ⟨a, ha⟩ : ∃ z, z = w.heap.size := ⟨_, rfl⟩
  obtain ⟨b, hb⟩ : ∃ z, z = w.heap.size + 1 := ⟨_, rfl⟩
  obtain ⟨c, hc⟩ : ∃ z, z = w.heap.size + 1 + 1 := ⟨_, rfl⟩
  have H0 : Hid (V3 (w3of w) a b c (.slice none 0 0) (.int .i64 0) (.int .i64 0) ∧ Below w.heap.size w (w3of w) ∧ (w3of w).heap.size = w.heap.size + 3) := Lib.hid (by rw [ha, hb, hc]; exact w3of_v3 w)
  have HABC : Hid (w.heap.size ≤ a ∧ w.heap.size ≤ b ∧ w.heap.size ≤ c ∧ a < (w3of w).heap.size ∧ b < (w3of w).heap.size ∧ c < (w3of w).heap.size) := Lib.hid (by have := H0.out.2.2; omega)
  go_enter_defers Tryd.func31, Tryd.ntmps31
  go_upto_region 1 with fail
  rw [← hc, ← hb, ← ha]
  clear ha hb hc
  unfold w3of at H0 HABC
  generalize ((w.alloc (.cells #[.slice none 0 0] 23)).alloc (.cells #[.int .i64 0] 3)).alloc (.cells #[.int .i64 0] 25) = w0 at *
  go_wp2_with fail
  refine (HA.out w0).mono ?_
  rintro e w1 ⟨A, cp, rfl, ho, hb⟩
  have HO := Lib.hid ho
  have HW1 : Hid (V3 w1 a b c (.slice none 0 0) (.int .i64 0) (.int .i64 0) ∧ Below w.heap.size w w1 ∧ w0.heap.size ≤ w1.heap.size) := Lib.hid ⟨H0.out.1.below hb, H0.out.2.1.trans (hb.mono H0.out.2.1.size), hb.size⟩
  have HCAP : Hid (ln ≤ cp) := Lib.hid (T8.own_cap ho)
  clear ho hb HA H0
  try dsimp only at HO
  have k5 := HW1.out.1.y.cell 0
  have g5 := HW1.out.1.y.frozen 0
  have k6 := HW1.out.1.z.cell 0
  have g6 := HW1.out.1.z.frozen 0
  have nbc := HW1.out.1.ne.2.2
  have HW2 : Hid (V3 ((w1.setCell ⟨b, 0, none⟩ (.int .i64 (q : Nat))).setCell ⟨c, 0, none⟩ (.int .i64 (er : Nat))) a b c (.slice none 0 0) (.int .i64 (q : Nat)) (.int .i64 (er : Nat)) ∧ Below w.heap.size w ((w1.setCell ⟨b, 0, none⟩ (.int .i64 (q : Nat))).setCell ⟨c, 0, none⟩ (.int .i64 (er : Nat))) ∧ RdZ ((w1.setCell ⟨b, 0, none⟩ (.int .i64 (q : Nat))).setCell ⟨c, 0, none⟩ (.int .i64 (er : Nat))) A L ∧ w0.heap.size ≤ ((w1.setCell ⟨b, 0, none⟩ (.int .i64 (q : Nat))).setCell ⟨c, 0, none⟩ (.int .i64 (er : Nat))).heap.size ∧ ∀ x, A = some x → w0.heap.size ≤ x.block ∧ x.block < ((w1.setCell ⟨b, 0, none⟩ (.int .i64 (q : Nat))).setCell ⟨c, 0, none⟩ (.int .i64 (er : Nat))).heap.size) := Lib.hid (by
    have hch : Chg (T3 a b c) w1 ((w1.setCell ⟨b, 0, none⟩ (.int .i64 (q : Nat))).setCell ⟨c, 0, none⟩ (.int .i64 (er : Nat))) := ((Chg.refl (T3 a b c) w1).setCell (p := ⟨b, 0, none⟩) (.inr (.inl rfl)) _).setCell (p := ⟨c, 0, none⟩) (.inr (.inr rfl)) _
    have hAl : ∀ x, A = some x → w0.heap.size ≤ x.block ∧ x.block < w1.heap.size := fun x hx => by subst hx; exact World.ownsRow.lt HO.out x.block rfl
    have h2 : RdZ w1 A L := by
      have h2 := rdz_own (l := toks) HO.out (by rw [← HLL.out, HLN.out])
      rw [HLL.out]
      exact h2
    refine ⟨(HW1.out.1.sety _).setz _, Chg.below HW1.out.2.1 hch HW1.out.2.1.size (fun k hk => abc_le HABC.out hk), h2.chg hch (fun x hx _ hk => ?_), Nat.le_trans HW1.out.2.2 hch.size, fun x hx => ⟨(hAl x hx).1, Nat.lt_of_lt_of_le (hAl x hx).2 hch.size⟩⟩
    have h3 := (hAl x hx).1
    have h4 := HABC.out
    rcases hk with hk | hk | hk <;> omega)
  go_upto_region 2 with fail
  generalize (w1.setCell ⟨b, 0, none⟩ (.int .i64 (q : Nat))).setCell ⟨c, 0, none⟩ (.int .i64 (er : Nat)) = w2 at *
  clear k5 g5 k6 g6 nbc HO HW1
  have k6 := HW2.out.1.z.cell 0
  by_cases her : er = 0
  · have he := HE.out
    rw [if_pos her] at he
    have HE := Lib.hid he
    have d0 : ((er : Int) != 0) = false := by simp [her]
    clear he her
    obtain ⟨g, hg⟩ : ∃ z, z = w2.heap.size := ⟨_, rfl⟩
    have hal : Below w2.heap.size w2 (w2.alloc (.cells #[.slice A ln cp, .int .i64 (sz : Nat), .bool false] 106)) := (Below.refl _ _).alloc (Nat.le_refl _) _
    have H3 : Hid (RdM (w2.alloc (.cells #[.slice A ln cp, .int .i64 (sz : Nat), .bool false] 106)) g L sz false ∧ V3 (w2.alloc (.cells #[.slice A ln cp, .int .i64 (sz : Nat), .bool false] 106)) a b c (.slice none 0 0) (.int .i64 (q : Nat)) (.int .i64 (er : Nat)) ∧ Below w.heap.size w (w2.alloc (.cells #[.slice A ln cp, .int .i64 (sz : Nat), .bool false] 106)) ∧ (a < g ∧ b < g ∧ c < g ∧ w.heap.size ≤ g ∧ g < (w2.alloc (.cells #[.slice A ln cp, .int .i64 (sz : Nat), .bool false] 106)).heap.size)) := Lib.hid (by
      have h4 := HABC.out
      have h5 := HW2.out.2.2.2.1
      have h6 := HW2.out.2.1.size
      refine ⟨⟨A, cp, by rw [hg, ← HLN.out]; exact Blk.new w2 _ _, HW2.out.2.2.1.below hal, ⟨?_, by rw [← HLN.out]; omega⟩, fun x hx => by rw [hg]; exact (HW2.out.2.2.2.2 x hx).2⟩, HW2.out.1.below hal, HW2.out.2.1.alloc HW2.out.2.1.size _, by omega, by omega, by omega, by omega, by rw [hg]; simp⟩
      rw [← HLN.out]
      exact HCAP.out)
    go_upto_region 6 with fail
    try rw [← hg]
    clear hg hal HW2
    generalize w2.alloc (.cells #[.slice A ln cp, .int .i64 (sz : Nat), .bool false] 106) = w3 at *
    have HC := Lib.hid (hcall g sz w3 L H3.out.1 HN.out)
    have HRB := Lib.hid (readF_bd n fl)
    have HN2 : Hid (readF n fl L ≠ .out) := HN
    obtain ⟨r, hr⟩ : ∃ r, r = readF n fl L := ⟨_, rfl⟩
    have HRR := Lib.hid hr
    have he := HE.out
    rw [← hr] at he
    have HE := Lib.hid he
    have HC : Hid (Calls Tryd.prog FN #[gp g] w3 (PPost w3 g sz false r)) := Lib.hid (by rw [hr]; exact HC.out)
    clear he hr
    go_wp2_with fail
    refine HC.out.mono ?_
    rintro e w4 ⟨hch, hp⟩
    have HCH := Lib.hid hch
    have HV4 : Hid (V3 w4 a b c (.slice none 0 0) (.int .i64 (q : Nat)) (.int .i64 (er : Nat))) := Lib.hid (H3.out.2.1.chg hch (by have := H3.out.2.2.2; omega) (by have := H3.out.2.2.2; omega) (by have := H3.out.2.2.2; omega))
    have HB4 : Hid (Below w.heap.size w w4) := Lib.hid (Chg.below H3.out.2.2.1 hch H3.out.2.2.1.size (fun k hk => by have hk2 : k = g := hk; rw [hk2]; exact H3.out.2.2.2.2.2.2.1))
    clear hch
    cases r with
    | out => exact hp.elim
    | bad l =>
      unfold thrown at hp
      subst hp
      have HRE : Hid (R = ([], (faultAt sz l).1, (((faultAt sz l).2 : Nat) : Int))) := Lib.hid (by rw [HE.out]; rfl)
      go_wp2_with fail
      refine leaves_cons (f := 68) (args := #[.pointer (some ⟨a, 0, none⟩), .pointer (some ⟨b, 0, none⟩), .pointer (some ⟨c, 0, none⟩)]) (by simp) (by simp [go_sem]) ?_
      refine (catch_panicking a b c _ _ _ (faultAt sz l) [] w4 HV4.out).mono ?_
      rintro e u' w9 ⟨rfl, rfl, hv9, hc9⟩
      have HV9 := Lib.hid hv9
      have HP9 : Hid (TrePost w R (.returned (.tuple #[.slice none 0 0, .int .i64 ((faultAt sz l).1 : Nat), .int .i64 ((faultAt sz l).2 : Nat)])) w9) := Lib.hid (by
        rw [HRE.out]
        exact ⟨none, 0, 0, rfl, Od.nil _ _, by simp, Chg.below HB4.out hc9 HB4.out.size (fun k hk => abc_le HABC.out hk)⟩)
      clear hv9 hc9
      have r1 := HV9.out.x.cell 0
      have r2 := HV9.out.y.cell 0
      have r3 := HV9.out.z.cell 0
      try simp at r1 r2 r3
      simp [bodyPostD, Leaves, settle, results, Tryd.results31, go_sem, r1, r2, r3]
      exact HP9.out
    | ok t l m =>
      obtain ⟨A4, c4, rfl, ho4, hrd4⟩ := hp
      have HO4 := Lib.hid ho4
      have HR4 := Lib.hid hrd4
      have HT4 : Hid (t.length ≤ 2048) := Lib.hid (hsm L t l m HRR.out.symm)
      clear ho4 hrd4
      have k4 := HV4.out.x.cell 0
      have g4 := HV4.out.x.frozen 0
      obtain ⟨tl, htl⟩ : ∃ z, z = t.length := ⟨_, rfl⟩
      have HTL := Lib.hid htl
      rw [← htl] at HO4 ⊢
      clear htl
      have H5 : Hid (V3 (w4.setCell ⟨a, 0, none⟩ (.slice A4 tl c4)) a b c (.slice A4 tl c4) (.int .i64 (q : Nat)) (.int .i64 (er : Nat)) ∧ Below w.heap.size w (w4.setCell ⟨a, 0, none⟩ (.slice A4 tl c4)) ∧ RdM (w4.setCell ⟨a, 0, none⟩ (.slice A4 tl c4)) g l sz (false || m) ∧ Od w (w4.setCell ⟨a, 0, none⟩ (.slice A4 tl c4)) A4 tl c4 t ∧ ∀ x, A4 = some x → g < x.block ∧ x.block < (w4.setCell ⟨a, 0, none⟩ (.slice A4 tl c4)).heap.size) := Lib.hid (by
        have hch : Chg (fun k => k = a) w4 (w4.setCell ⟨a, 0, none⟩ (.slice A4 tl c4)) := chg_self w4 a 0 _
        have h4 := H3.out.2.2.2
        have hbl : ∀ x, A4 = some x → g < x.block ∧ x.block < (w4.setCell ⟨a, 0, none⟩ (.slice A4 tl c4)).heap.size := fun x hx => by
          subst hx
          have h5 := World.ownsRow.lt HO4.out x.block rfl
          exact ⟨by omega, Nat.lt_of_lt_of_le h5.2 hch.size⟩
        refine ⟨HV4.out.setx _, Chg.below HB4.out hch HB4.out.size (fun k hk => by have hk2 : k = a := hk; rw [hk2]; exact HABC.out.1), ?_, ⟨HTL.out, own_chg (own_mono HO4.out H3.out.2.2.1.size) hch (fun gg hgg hk => by have h5 := World.ownsRow.lt HO4.out gg hgg; have hk2 : gg = a := hk; omega)⟩, hbl⟩
        obtain ⟨A9, c9, r1, r2, r3, r4⟩ := HR4.out
        exact ⟨A9, c9, r1.chg hch (by omega), r2.chg hch (fun x hx hl hk => rd_not HV4.out.x (fun _ h => by cases h) r2 hx hl hk), r3, r4⟩)
      go_upto_region 7 with fail
      generalize w4.setCell ⟨a, 0, none⟩ (.slice A4 tl c4) = w5 at *
      clear k4 g4 HO4 HR4 HV4 HB4 HCH
      obtain ⟨kA, kc, kn, kln⟩ : ∃ A9 c9 nn, w5.cell? ⟨g, 0, none⟩ = some (.slice A9 nn c9) ∧ nn = l.length := by
        obtain ⟨A9, c9, r1, _⟩ := H5.out.2.2.1
        exact ⟨A9, c9, _, r1.cell 0, rfl⟩
      obtain ⟨kcell, knn⟩ := kln
      have HKN := Lib.hid knn
      clear knn
      cases l with
      | cons x rr =>
        have HRE : Hid (R = ([], (faultAt sz (x :: rr)).1, (((faultAt sz (x :: rr)).2 : Nat) : Int))) := Lib.hid (by rw [HE.out]; rfl)
        have d1 : decide ((kn : Int) > 0) = true := decide_eq_true (by have := HKN.out; simp at this; omega)
        have d2 : 0 < kn := by have := HKN.out; simp at this; omega
        have d3 : decide (0 < kn) = true := decide_eq_true d2
        have HF := Lib.hid (fault_any g sz (x :: rr) _ w5 H5.out.2.2.1)
        go_wp2_with fail
        refine HF.out.mono ?_
        rintro e w6 ⟨he6, rfl⟩
        unfold thrown at he6
        subst he6
        have HV4 : Hid (V3 w6 a b c (.slice A4 tl c4) (.int .i64 (q : Nat)) (.int .i64 (er : Nat))) := Lib.hid H5.out.1
        have HB4 : Hid (Below w.heap.size w w6) := Lib.hid H5.out.2.1
        go_wp2_with fail
        refine leaves_cons (f := 68) (args := #[.pointer (some ⟨a, 0, none⟩), .pointer (some ⟨b, 0, none⟩), .pointer (some ⟨c, 0, none⟩)]) (by simp) (by simp [go_sem]) ?_
        refine (catch_panicking a b c _ _ _ (faultAt sz (x :: rr)) [] w6 HV4.out).mono ?_
        rintro e u' w9 ⟨rfl, rfl, hv9, hc9⟩
        have HV9 := Lib.hid hv9
        have HP9 : Hid (TrePost w R (.returned (.tuple #[.slice none 0 0, .int .i64 ((faultAt sz (x :: rr)).1 : Nat), .int .i64 ((faultAt sz (x :: rr)).2 : Nat)])) w9) := Lib.hid (by
          rw [HRE.out]
          exact ⟨none, 0, 0, rfl, Od.nil _ _, by simp, Chg.below HB4.out hc9 HB4.out.size (fun k hk => abc_le HABC.out hk)⟩)
        clear hv9 hc9
        have r1 := HV9.out.x.cell 0
        have r2 := HV9.out.y.cell 0
        have r3 := HV9.out.z.cell 0
        try simp at r1 r2 r3
        simp [bodyPostD, Leaves, settle, results, Tryd.results31, go_sem, r1, r2, r3]
        exact HP9.out
      | nil =>
        have d1 : decide ((kn : Int) > 0) = false := decide_eq_false (by have := HKN.out; simp at this; omega)
        have d2 : kn = 0 := by have := HKN.out; simpa using this
        have HRE : Hid (R = if m || decide ((T8.chk t).2 ≠ 0) then ([], 0, 2) else (t, 0, 0)) := Lib.hid (by rw [HE.out]; rfl)
        have HTB : Hid (TB t) := Lib.hid (HRB.out L t [] m HZ.out (by rw [← HLN.out]; omega) HRR.out.symm).1
        have HCK := Lib.hid (T8.check_any A4 c4 t w5 (twok_of HTB.out) (rdw_of H5.out.2.2.2.1.rd) (by have := HT4.out; omega) (fun x hx _ => (H5.out.2.2.2.2 x hx).2))
        rw [← HTL.out] at HCK
        obtain ⟨ck, hck⟩ : ∃ z, z = (T8.chk t).2 := ⟨_, rfl⟩
        rw [← hck] at HRE HCK
        have k4 := H5.out.1.x.cell 0
        subst d2
        clear hck HKN
        go_wp2_with fail
        refine HCK.out.mono ?_
        rintro e w6 ⟨rfl, hb6⟩
        have H6 : Hid (V3 w6 a b c (.slice A4 tl c4) (.int .i64 (q : Nat)) (.int .i64 (er : Nat)) ∧ Below w.heap.size w w6 ∧ Od w w6 A4 tl c4 t ∧ w6.cell? ⟨g, 2, none⟩ = some (.bool (false || m)) ∧ ∀ x, A4 = some x → g < x.block) := Lib.hid ⟨H5.out.1.below hb6, H5.out.2.1.trans (hb6.mono H5.out.2.1.size), ⟨H5.out.2.2.2.1.len, own_below H5.out.2.2.2.1.own hb6⟩, (hb6.cell (p := ⟨g, 2, none⟩) H5.out.2.2.1.lt).trans (by
          obtain ⟨A9, c9, r1, _⟩ := H5.out.2.2.1
          exact r1.cell 2), fun x hx => (H5.out.2.2.2.2 x hx).1⟩
        have k2 := H6.out.2.2.2.1
        clear hb6 k4 kcell HCK
        have HGT : Hid (∀ (v1 v2 v3 : Value), V3 (((w6.setCell ⟨a, 0, none⟩ v1).setCell ⟨b, 0, none⟩ v2).setCell ⟨c, 0, none⟩ v3) a b c v1 v2 v3 ∧ Below w.heap.size w (((w6.setCell ⟨a, 0, none⟩ v1).setCell ⟨b, 0, none⟩ v2).setCell ⟨c, 0, none⟩ v3) ∧ Od w (((w6.setCell ⟨a, 0, none⟩ v1).setCell ⟨b, 0, none⟩ v2).setCell ⟨c, 0, none⟩ v3) A4 tl c4 t) := Lib.hid (fun v1 v2 v3 => by
          have hch : Chg (T3 a b c) w6 (((w6.setCell ⟨a, 0, none⟩ v1).setCell ⟨b, 0, none⟩ v2).setCell ⟨c, 0, none⟩ v3) := (((Chg.refl (T3 a b c) w6).setCell (p := ⟨a, 0, none⟩) (.inl rfl) _).setCell (p := ⟨b, 0, none⟩) (.inr (.inl rfl)) _).setCell (p := ⟨c, 0, none⟩) (.inr (.inr rfl)) _
          refine ⟨((H6.out.1.setx _).sety _).setz _, Chg.below H6.out.2.1 hch H6.out.2.1.size (fun k hk => abc_le HABC.out hk), ⟨H6.out.2.2.1.len, own_chg H6.out.2.2.1.own hch (fun gg hgg hk => ?_)⟩⟩
          have h4 := H3.out.2.2.2
          obtain ⟨g9, hv9, _⟩ : ∃ x, A4 = some x ∧ x.block = gg := by
            cases hA4 : A4 with
            | none => rw [hA4] at hgg; simp [Value.ownBlock] at hgg
            | some x => rw [hA4] at hgg; exact ⟨x, rfl, by simpa [Value.ownBlock] using hgg⟩
          have h5 := H6.out.2.2.2.2 g9 hv9
          rcases hk with hk | hk | hk <;> omega)
        have k4 := H6.out.1.x.cell 0
        have g4 := H6.out.1.x.frozen 0
        have k5 := H6.out.1.y.cell 0
        have g5 := H6.out.1.y.frozen 0
        have k6 := H6.out.1.z.cell 0
        have g6 := H6.out.1.z.frozen 0
        obtain ⟨nab, nac, nbc⟩ := H6.out.1.ne
        cases m with
        | true =>
          have HRE2 : Hid (R = ([], 0, 2)) := Lib.hid (by rw [HRE.out]; rfl)
          go_wp2_with fail
          refine leaves_cons (f := 68) (args := #[.pointer (some ⟨a, 0, none⟩), .pointer (some ⟨b, 0, none⟩), .pointer (some ⟨c, 0, none⟩)]) (by simp) (by simp [go_sem]) ?_
          refine (catch_idle ⟨a, 0, none⟩ ⟨b, 0, none⟩ ⟨c, 0, none⟩ _).mono ?_
          rintro e u' w'' ⟨rfl, rfl, rfl⟩
          have HV9 := Lib.hid (HGT.out (.slice none 0 0) (.int .i64 0) (.int .i64 2)).1
          have HP9 : Hid (TrePost w R (.returned (.tuple #[.slice none 0 0, .int .i64 0, .int .i64 2])) (((w6.setCell ⟨a, 0, none⟩ (.slice none 0 0)).setCell ⟨b, 0, none⟩ (.int .i64 0)).setCell ⟨c, 0, none⟩ (.int .i64 2))) := Lib.hid (by
            rw [HRE2.out]
            exact ⟨none, 0, 0, rfl, Od.nil _ _, by simp, (HGT.out _ _ _).2.1⟩)
          generalize ((w6.setCell ⟨a, 0, none⟩ (.slice none 0 0)).setCell ⟨b, 0, none⟩ (.int .i64 0)).setCell ⟨c, 0, none⟩ (.int .i64 2) = w9 at *
          have r1 := HV9.out.x.cell 0
          have r2 := HV9.out.y.cell 0
          have r3 := HV9.out.z.cell 0
          try simp at r1 r2 r3
          simp [bodyPostD, Leaves, settle, results, Tryd.results31, go_sem, r1, r2, r3]
          exact HP9.out
        | false =>
          by_cases h0 : ck = 0
          · have d4 : (ck != 0) = false := by simp [h0]
            have HRE2 : Hid (R = (t, 0, 0)) := Lib.hid (by rw [HRE.out, h0]; rfl)
            clear h0
            go_wp2_with fail
            refine leaves_cons (f := 68) (args := #[.pointer (some ⟨a, 0, none⟩), .pointer (some ⟨b, 0, none⟩), .pointer (some ⟨c, 0, none⟩)]) (by simp) (by simp [go_sem]) ?_
            refine (catch_idle ⟨a, 0, none⟩ ⟨b, 0, none⟩ ⟨c, 0, none⟩ _).mono ?_
            rintro e u' w'' ⟨rfl, rfl, rfl⟩
            have HV9 := Lib.hid (HGT.out (.slice A4 tl c4) (.int .i64 0) (.int .i64 0)).1
            have HP9 : Hid (TrePost w R (.returned (.tuple #[.slice A4 tl c4, .int .i64 0, .int .i64 0])) (((w6.setCell ⟨a, 0, none⟩ (.slice A4 tl c4)).setCell ⟨b, 0, none⟩ (.int .i64 0)).setCell ⟨c, 0, none⟩ (.int .i64 0))) := Lib.hid (by
              rw [HRE2.out]
              exact ⟨A4, tl, c4, rfl, (HGT.out _ _ _).2.2, HT4.out, (HGT.out _ _ _).2.1⟩)
            generalize ((w6.setCell ⟨a, 0, none⟩ (.slice A4 tl c4)).setCell ⟨b, 0, none⟩ (.int .i64 0)).setCell ⟨c, 0, none⟩ (.int .i64 0) = w9 at *
            have r1 := HV9.out.x.cell 0
            have r2 := HV9.out.y.cell 0
            have r3 := HV9.out.z.cell 0
            try simp at r1 r2 r3
            simp [bodyPostD, Leaves, settle, results, Tryd.results31, go_sem, r1, r2, r3]
            exact HP9.out
          · have d4 : (ck != 0) = true := by simpa using h0
            have HRE2 : Hid (R = ([], 0, 2)) := Lib.hid (by rw [HRE.out, decide_eq_true h0]; rfl)
            clear h0
            go_wp2_with fail
            refine leaves_cons (f := 68) (args := #[.pointer (some ⟨a, 0, none⟩), .pointer (some ⟨b, 0, none⟩), .pointer (some ⟨c, 0, none⟩)]) (by simp) (by simp [go_sem]) ?_
            refine (catch_idle ⟨a, 0, none⟩ ⟨b, 0, none⟩ ⟨c, 0, none⟩ _).mono ?_
            rintro e u' w'' ⟨rfl, rfl, rfl⟩
            have HV9 := Lib.hid (HGT.out (.slice none 0 0) (.int .i64 0) (.int .i64 2)).1
            have HP9 : Hid (TrePost w R (.returned (.tuple #[.slice none 0 0, .int .i64 0, .int .i64 2])) (((w6.setCell ⟨a, 0, none⟩ (.slice none 0 0)).setCell ⟨b, 0, none⟩ (.int .i64 0)).setCell ⟨c, 0, none⟩ (.int .i64 2))) := Lib.hid (by
              rw [HRE2.out]
              exact ⟨none, 0, 0, rfl, Od.nil _ _, by simp, (HGT.out _ _ _).2.1⟩)
            generalize ((w6.setCell ⟨a, 0, none⟩ (.slice none 0 0)).setCell ⟨b, 0, none⟩ (.int .i64 0)).setCell ⟨c, 0, none⟩ (.int .i64 2) = w9 at *
            have r1 := HV9.out.x.cell 0
            have r2 := HV9.out.y.cell 0
            have r3 := HV9.out.z.cell 0
            try simp at r1 r2 r3
            simp [bodyPostD, Leaves, settle, results, Tryd.results31, go_sem, r1, r2, r3]
            exact HP9.out
  · have d0 : ((er : Int) != 0) = true := by simpa using her
    have HRE : Hid (R = ([], q, ((er : Nat) : Int))) := Lib.hid (by rw [HE.out, if_neg her])
    clear her
    go_wp2_with fail
    refine wp_region_plan (.q 0 (.q 1 (.a1 2 (.a1 3 (.a1 4 .fin))))) 5 (fun W => W.cell? ⟨b, 0, none⟩ = some (.int .i64 (q : Nat)) ∧ W.cell? ⟨c, 0, none⟩ = some (.int .i64 (er : Nat))) (by kernel_rfl) rfl (by kernel_rfl) ⟨HW2.out.1.y.cell 0, HW2.out.1.z.cell 0⟩ ?_
    have HVa : Hid (V3 w2.drew a b c (.slice none 0 0) (.int .i64 (q : Nat)) (.int .i64 (er : Nat)) ∧ Chg (T3 a b c) w2 w2.drew) := Lib.hid ⟨HW2.out.1.below ((Below.refl _ _).drew), (Chg.refl _ _).drew⟩
    generalize w2.drew = wd at *
    refine wpPlan_q rfl rfl rfl ?_; intro K hK
    refine ⟨.int .i64 (q : Nat), fun W hW => ?_, ?_⟩
    · have q0 := hW.1
      unfold Oper.quietAt Oper.quietUpon
      simp [go_sem, q0]
    refine hK _ ?_
    clear hK K
    try simp only [Act.put, List.setIfInBounds_toArray, List.set_cons_succ, List.set_cons_zero]
    refine wpPlan_q rfl rfl rfl ?_; intro K hK
    refine ⟨.int .i64 (er : Nat), fun W hW => ?_, ?_⟩
    · have q0 := hW.2
      unfold Oper.quietAt Oper.quietUpon
      simp [go_sem, q0]
    refine hK _ ?_
    clear hK K
    try simp only [Act.put, List.setIfInBounds_toArray, List.set_cons_succ, List.set_cons_zero]
    have g21 : (wd).frozen? ⟨a, 0, none⟩ = false := HVa.out.1.x.frozen 0
    have k21 : (wd).cell? ⟨a, 0, none⟩ = some (Value.slice none 0 0) := HVa.out.1.x.cell 0
    have HVa2 : Hid (V3 ((wd).setCell ⟨a, 0, none⟩ (Value.slice none 0 0)) a b c (.slice none 0 0) (.int .i64 (q : Nat)) (.int .i64 (er : Nat)) ∧ Chg (T3 a b c) w2 ((wd).setCell ⟨a, 0, none⟩ (Value.slice none 0 0))) := Lib.hid ⟨HVa.out.1.setx _, HVa.out.2.setCell (p := ⟨a, 0, none⟩) (.inl rfl) _⟩
    refine wpPlan_act true rfl rfl rfl ?_; intro K hK
    go_simp
    refine hK _ _ (fun _ => ⟨HVa2.out.1.y.cell 0, HVa2.out.1.z.cell 0⟩) ?_
    clear hK K
    try simp only [Act.put, List.setIfInBounds_toArray, List.set_cons_succ, List.set_cons_zero]
    generalize (wd).setCell ⟨a, 0, none⟩ (Value.slice none 0 0) = wv0 at *
    clear g21 k21 HVa
    have g31 : (wv0).frozen? ⟨b, 0, none⟩ = false := HVa2.out.1.y.frozen 0
    have k31 : (wv0).cell? ⟨b, 0, none⟩ = some (Value.int .i64 (q : Nat)) := HVa2.out.1.y.cell 0
    have HVb2 : Hid (V3 ((wv0).setCell ⟨b, 0, none⟩ (Value.int .i64 (q : Nat))) a b c (.slice none 0 0) (.int .i64 (q : Nat)) (.int .i64 (er : Nat)) ∧ Chg (T3 a b c) w2 ((wv0).setCell ⟨b, 0, none⟩ (Value.int .i64 (q : Nat)))) := Lib.hid ⟨HVa2.out.1.sety _, HVa2.out.2.setCell (p := ⟨b, 0, none⟩) (.inr (.inl rfl)) _⟩
    refine wpPlan_act true rfl rfl rfl ?_; intro K hK
    go_simp
    refine hK _ _ (fun _ => ⟨HVb2.out.1.y.cell 0, HVb2.out.1.z.cell 0⟩) ?_
    clear hK K
    try simp only [Act.put, List.setIfInBounds_toArray, List.set_cons_succ, List.set_cons_zero]
    generalize (wv0).setCell ⟨b, 0, none⟩ (Value.int .i64 (q : Nat)) = wv1 at *
    clear g31 k31 HVa2
    have g41 : (wv1).frozen? ⟨c, 0, none⟩ = false := HVb2.out.1.z.frozen 0
    have k41 : (wv1).cell? ⟨c, 0, none⟩ = some (Value.int .i64 (er : Nat)) := HVb2.out.1.z.cell 0
    have HVc2 : Hid (V3 ((wv1).setCell ⟨c, 0, none⟩ (Value.int .i64 (er : Nat))) a b c (.slice none 0 0) (.int .i64 (q : Nat)) (.int .i64 (er : Nat)) ∧ Chg (T3 a b c) w2 ((wv1).setCell ⟨c, 0, none⟩ (Value.int .i64 (er : Nat)))) := Lib.hid ⟨HVb2.out.1.setz _, HVb2.out.2.setCell (p := ⟨c, 0, none⟩) (.inr (.inr rfl)) _⟩
    refine wpPlan_act true rfl rfl rfl ?_; intro K hK
    go_simp
    refine hK _ _ (fun _ => ⟨HVc2.out.1.y.cell 0, HVc2.out.1.z.cell 0⟩) ?_
    clear hK K
    try simp only [Act.put, List.setIfInBounds_toArray, List.set_cons_succ, List.set_cons_zero]
    generalize (wv1).setCell ⟨c, 0, none⟩ (Value.int .i64 (er : Nat)) = wv2 at *
    clear g41 k41 HVb2
    refine wpPlan_end ?_
    go_wp2_with fail
    have HV9 := Lib.hid HVc2.out.1
    have HP9 : Hid (TrePost w R (.returned (.tuple #[.slice none 0 0, .int .i64 (q : Nat), .int .i64 (er : Nat)])) wv2) := Lib.hid (by
      rw [HRE.out]
      exact ⟨none, 0, 0, rfl, Od.nil _ _, by simp, Chg.below HW2.out.2.1 HVc2.out.2 HW2.out.2.1.size (fun k hk => abc_le HABC.out hk)⟩)
    have r1 := HV9.out.x.cell 0
    have r2 := HV9.out.y.cell 0
    have r3 := HV9.out.z.cell 0
    try simp at r1 r2 r3
    simp [bodyPostD, Leaves, settle, results, Tryd.results31, go_sem, r1, r2, r3]
    exact HP9.out
theorem all_flow (n : Nat) (s : List UInt8) (hs : s.length ≤ 100000) (hne : readF n true ((srcL s).1.map zOf) ≠ .out) (w : World) :
    Calls Tryd.prog 31 #[.string ⟨s.toArray⟩, .func (.func 32) #[] #[]] w (TrePost w (srcT n true s)) :=
  all_any2 n true 32 (fun _ _ => by kernel_rfl) (fun g size W L h1 h2 => flow_any n g size L false W h1 h2) (fun L t l m h => flowP_small h) s hs hne w
theorem all_expr (n : Nat) (s : List UInt8) (hs : s.length ≤ 100000) (hne : readF n false ((srcL s).1.map zOf) ≠ .out) (w : World) :
    Calls Tryd.prog 31 #[.string ⟨s.toArray⟩, .func (.func 33) #[] #[]] w (TrePost w (srcT n false s)) :=
  all_any2 n false 33 (fun _ _ => by kernel_rfl) (fun g size W L h1 h2 => nt_ok n .expr g size L false W h1 h2) (fun L t l m h => (P_len n .expr L t l m h).1) s hs hne w
set_option maxRecDepth 100000 in
set_option maxHeartbeats 8000000 in
theorem expr5_any (n : Nat) (s : List UInt8) (hs : s.length ≤ 100000) (hne : readF n false ((srcL s).1.map zOf) ≠ .out) (w : World) :
    Calls Tryd.prog 16 #[.string ⟨s.toArray⟩] w (TrePost w (srcT n false s)) := by
  have HC := Lib.hid (all_expr n s hs hne w)
  obtain ⟨st, hst⟩ : ∃ st : ByteArray, st = ⟨s.toArray⟩ := ⟨_, rfl⟩
  rw [← hst] at HC ⊢
  generalize srcT n false s = R at *
  obtain ⟨t, q, er⟩ := R
  clear hst hne hs
  go_enter Tryd.func16, Tryd.ntmps16
  go_wp2_with fail
  refine HC.out.mono ?_
  rintro e w1 ⟨A, n1, c, rfl, ho, hl, hb⟩
  have HP := Lib.hid (And.intro ho (And.intro hl hb))
  clear ho hl hb
  try dsimp only at HP
  go_wp2_with fail
  go_ret3
  exact ⟨A, n1, c, rfl, HP.out⟩
set_option maxRecDepth 100000 in
set_option maxHeartbeats 8000000 in
theorem flow9_any (n : Nat) (s : List UInt8) (hs : s.length ≤ 100000) (hne : readF n true ((srcL s).1.map zOf) ≠ .out) (w : World) :
    Calls Tryd.prog 15 #[.string ⟨s.toArray⟩] w (TrePost w (srcT n true s)) := by
  have HC := Lib.hid (all_flow n s hs hne w)
  obtain ⟨st, hst⟩ : ∃ st : ByteArray, st = ⟨s.toArray⟩ := ⟨_, rfl⟩
  rw [← hst] at HC ⊢
  generalize srcT n true s = R at *
  obtain ⟨t, q, er⟩ := R
  clear hst hne hs
  go_enter Tryd.func15, Tryd.ntmps15
  go_wp2_with fail
  refine HC.out.mono ?_
  rintro e w1 ⟨A, n1, c, rfl, ho, hl, hb⟩
  have HP := Lib.hid (And.intro ho (And.intro hl hb))
  clear ho hl hb
  try dsimp only at HP
  go_wp2_with fail
  go_ret3
  exact ⟨A, n1, c, rfl, HP.out⟩
def wakeS : List UInt8 := [49, 32, 45, 32, 50, 32, 45, 32, 51]
def wakeT : List Tw := [⟨37, 2, 0, bs []⟩, ⟨37, 2, 0, bs []⟩, ⟨23, 0, 1, bs []⟩, ⟨23, 0, 2, bs []⟩, ⟨23, 0, 3, bs []⟩]
set_option maxRecDepth 100000 in
theorem wake_src : srcT 60 false wakeS = (wakeT, 0, 0) := by kernel_rfl
set_option maxRecDepth 100000 in
theorem wake_ne : readF 60 false ((srcL wakeS).1.map zOf) ≠ .out := by
  have h : (match readF 60 false ((srcL wakeS).1.map zOf) with | .out => true | _ => false) = false := by kernel_rfl
  intro hh
  rw [hh] at h
  cases h
set_option maxRecDepth 100000 in
set_option maxHeartbeats 8000000 in
theorem wakes8_any (w : World) : Calls Tryd.prog 17 #[] w fun e w' => e = .returned (.bool true) ∧ Below w.heap.size w w' := by
  have HC := Lib.hid (expr5_any 60 wakeS (by decide) wake_ne w)
  rw [wake_src] at HC
  have e1 : (⟨wakeS.toArray⟩ : ByteArray) = ⟨#[49, 32, 45, 32, 50, 32, 45, 32, 51]⟩ := rfl
  rw [e1] at HC
  clear e1
  go_enter Tryd.func17, Tryd.ntmps17
  go_wp2_with fail
  refine HC.out.mono ?_
  rintro e w1 ⟨A, n, c, rfl, ho, hl, hb⟩
  have hn : n = 5 := ho.len
  subst hn
  obtain ⟨g, cp, hv, _, _⟩ := World.ownsRow.form ho.own (by decide)
  have hA : A = some ⟨g, 0, none⟩ := by injection hv
  subst hA
  have HB := Lib.hid hb
  have key := fun i v (h : (rowOf twcell wakeT)[i]? = some v) => ho.own.cells (g := g) rfl i v h
  have c4 := key 4 (.int .u8 37) rfl
  have c18 := key 18 (.int .i64 3) rfl
  rw [addr_add] at c4 c18
  simp only [Nat.zero_add] at c4 c18
  clear key ho hb hl hv HC
  go_wp2_with fail
  go_ret
  exact ⟨rfl, HB.out⟩
theorem take_ext (s : List UInt8) (k : Nat) : (⟨s.toArray⟩ : ByteArray).extract 0 k = ⟨(s.take k).toArray⟩ := by
  rw [ext_cut]
  unfold cutL
  rw [List.drop_zero]
end Go.Proofs.YtbcadlocldplfaaDoor
namespace Go.Proofs.YtbcadlocldplfaaDoor
def zkey (x : Tz) : Nat × ByteArray × Int := (x.kind, x.text, x.int)
structure Like (r : List Tz → List Tz → Prop) (e1 e2 : List Tz → Prop) : Prop where
  look : ∀ {l l2}, r l l2 → l.head?.map zkey = l2.head?.map zkey
  tail : ∀ {l l2}, r l l2 → r l.tail l2.tail ∨ (e1 l.tail ∧ e2 l2.tail)
  t1 : ∀ {l}, e1 l → e1 l.tail
  t2 : ∀ {l}, e2 l → e2 l.tail
def Esc {α : Type} (e : List Tz → Prop) : Pr α → Prop
  | .out => True
  | .bad l => e l
  | .ok _ l _ => e l
def Res {α : Type} (r : List Tz → List Tz → Prop) (e1 e2 : List Tz → Prop) (x y : Pr α) : Prop :=
  (∃ t l l2 m, x = .ok t l m ∧ y = .ok t l2 m ∧ r l l2) ∨ (∃ l l2, x = .bad l ∧ y = .bad l2 ∧ r l l2) ∨ (Esc e1 x ∧ Esc e2 y)
structure Gd {α : Type} (r : List Tz → List Tz → Prop) (e1 e2 : List Tz → Prop) (f : List Tz → Pr α) : Prop where
  u1 : ∀ l, e1 l → Esc e1 (f l)
  u2 : ∀ l, e2 l → Esc e2 (f l)
  b : ∀ l l2, r l l2 → Res r e1 e2 (f l) (f l2)
section
variable {r : List Tz → List Tz → Prop} {e1 e2 : List Tz → Prop} {α β : Type}
theorem Like.isT (h : Like r e1 e2) {l l2 : List Tz} (hr : r l l2) (s : List UInt8) : isT s l = isT s l2 := by
  have hl := h.look hr
  cases l with
  | nil => cases l2 with
    | nil => rfl
    | cons y t => cases hl
  | cons x t => cases l2 with
    | nil => cases hl
    | cons y t2 =>
      simp only [List.head?_cons, Option.map_some, Option.some.injEq, zkey, Prod.mk.injEq] at hl
      show ((decide (x.kind = 1) || decide (x.kind = 4)) && decide (x.text.data.toList = s)) = ((decide (y.kind = 1) || decide (y.kind = 4)) && decide (y.text.data.toList = s))
      rw [hl.1, hl.2.1]
theorem Like.mineT (h : Like r e1 e2) {l l2 : List Tz} (hr : r l l2) : mineT l = mineT l2 := by
  have hl := h.look hr
  cases l with
  | nil => cases l2 with
    | nil => rfl
    | cons y t => cases hl
  | cons x t => cases l2 with
    | nil => cases hl
    | cons y t2 =>
      simp only [List.head?_cons, Option.map_some, Option.some.injEq, zkey, Prod.mk.injEq] at hl
      show (decide (x.kind = 1) && !kwB x.text) = (decide (y.kind = 1) && !kwB y.text)
      rw [hl.1, hl.2.1]
theorem Esc.add {e : List Tz → Prop} {x : Pr α} (h : Esc e x) (m : Bool) : Esc e (x.add m) := by cases x <;> exact h
theorem Esc.bind {e : List Tz → Prop} {x : Pr α} {f : α → List Tz → Pr β} (h : Esc e x) (hf : ∀ a l, e l → Esc e (f a l)) : Esc e (x.bind f) := by
  cases x with
  | out => trivial
  | bad l => exact h
  | ok a l m => exact (hf a l h).add m
theorem Res.add {x y : Pr α} (h : Res r e1 e2 x y) (m : Bool) : Res r e1 e2 (x.add m) (y.add m) := by
  rcases h with ⟨t, l, l2, m', rfl, rfl, h⟩ | ⟨l, l2, rfl, rfl, h⟩ | ⟨h1, h2⟩
  · exact .inl ⟨t, l, l2, _, rfl, rfl, h⟩
  · exact .inr (.inl ⟨l, l2, rfl, rfl, h⟩)
  · exact .inr (.inr ⟨h1.add m, h2.add m⟩)
theorem Gd.bind {f : List Tz → Pr α} {g : α → List Tz → Pr β} (hf : Gd r e1 e2 f) (hg : ∀ a, Gd r e1 e2 (g a)) : Gd r e1 e2 (fun l => (f l).bind (g)) where
  u1 l h := (hf.u1 l h).bind fun a l h => (hg a).u1 l h
  u2 l h := (hf.u2 l h).bind fun a l h => (hg a).u2 l h
  b l l2 h := by
    rcases hf.b l l2 h with ⟨t, l', l2', m', h1, h2, h3⟩ | ⟨l', l2', h1, h2, h3⟩ | ⟨h1, h2⟩
    · simp only [h1, h2, Pr.bind_ok]
      exact ((hg t).b _ _ h3).add m'
    · simp only [h1, h2]
      exact .inr (.inl ⟨_, _, rfl, rfl, h3⟩)
    · exact .inr (.inr ⟨h1.bind fun a l h => (hg a).u1 l h, h2.bind fun a l h => (hg a).u2 l h⟩)
theorem Gd.ok (a : α) (m : Bool) : Gd r e1 e2 (fun l => Pr.ok a l m) := ⟨fun _ h => h, fun _ h => h, fun l l2 h => .inl ⟨a, l, l2, m, rfl, rfl, h⟩⟩
theorem Gd.bad : Gd r e1 e2 (fun l => (Pr.bad l : Pr α)) := ⟨fun _ h => h, fun _ h => h, fun l l2 h => .inr (.inl ⟨l, l2, rfl, rfl, h⟩)⟩
theorem Gd.out : Gd r e1 e2 (fun _ => (Pr.out : Pr α)) := ⟨fun _ _ => trivial, fun _ _ => trivial, fun _ _ _ => .inr (.inr ⟨trivial, trivial⟩)⟩
theorem Gd.tail (h : Like r e1 e2) {f : List Tz → Pr α} (hf : Gd r e1 e2 f) : Gd r e1 e2 (fun l => f l.tail) where
  u1 l hl := hf.u1 _ (h.t1 hl)
  u2 l hl := hf.u2 _ (h.t2 hl)
  b l l2 hr := by
    rcases h.tail hr with h1 | ⟨h1, h2⟩
    · exact hf.b _ _ h1
    · exact .inr (.inr ⟨hf.u1 _ h1, hf.u2 _ h2⟩)
theorem Gd.okt (h : Like r e1 e2) (a : α) (m : Bool) : Gd r e1 e2 (fun l => Pr.ok a l.tail m) := (Gd.ok a m).tail h
theorem Gd.ite {b : List Tz → Bool} (hb : ∀ l l2, r l l2 → b l = b l2) {f g : List Tz → Pr α} (hf : Gd r e1 e2 f) (hg : Gd r e1 e2 g) : Gd r e1 e2 (fun l => if b l = true then f l else g l) where
  u1 l hl := by
    show Esc e1 (if b l = true then f l else g l)
    split
    · exact hf.u1 l hl
    · exact hg.u1 l hl
  u2 l hl := by
    show Esc e2 (if b l = true then f l else g l)
    split
    · exact hf.u2 l hl
    · exact hg.u2 l hl
  b l l2 hr := by
    show Res r e1 e2 (if b l = true then f l else g l) (if b l2 = true then f l2 else g l2)
    rw [hb l l2 hr]
    split
    · exact hf.b l l2 hr
    · exact hg.b l l2 hr
theorem Gd.isT (h : Like r e1 e2) {s : List UInt8} {f g : List Tz → Pr α} (hf : Gd r e1 e2 f) (hg : Gd r e1 e2 g) : Gd r e1 e2 (fun l => if YtbcadlocldplfaaDoor.isT s l = true then f l else g l) := Gd.ite (b := fun l => YtbcadlocldplfaaDoor.isT s l) (fun _ _ hr => h.isT hr s) hf hg
theorem Gd.mineT (h : Like r e1 e2) {f g : List Tz → Pr α} (hf : Gd r e1 e2 f) (hg : Gd r e1 e2 g) : Gd r e1 e2 (fun l => if YtbcadlocldplfaaDoor.mineT l = true then f l else g l) := Gd.ite (b := fun l => YtbcadlocldplfaaDoor.mineT l) (fun _ _ hr => h.mineT hr) hf hg
theorem Gd.must (h : Like r e1 e2) (s : List UInt8) : Gd r e1 e2 (mustP s) := (Gd.okt h () false).isT h Gd.bad
theorem Gd.of (x : Tw) (ts : List (List Tw)) : Gd r e1 e2 (ofP x ts) := by
  have e : ofP x ts = fun l => Pr.ok (if 2048 < 1 + ts.flatten.length then [{ x with kids := (ts.length : Nat) }] else { x with kids := (ts.length : Nat) } :: ts.flatten) l (decide (2048 < 1 + ts.flatten.length)) := by
    funext l
    unfold ofP
    split
    · rename_i hh; rw [decide_eq_true hh]
    · rename_i hh; rw [decide_eq_false hh]
  rw [e]
  exact Gd.ok _ _
theorem Gd.own (h : Like r e1 e2) : Gd r e1 e2 ownP where
  u1 l hl := by
    unfold ownP
    split
    · exact h.t1 hl
    · exact hl
  u2 l hl := by
    unfold ownP
    split
    · exact h.t2 hl
    · exact hl
  b l l2 hr := by
    unfold ownP
    rw [h.mineT hr]
    have hl := h.look hr
    split
    · rename_i hm
      cases l2 with
      | nil => cases hm
      | cons y t2 => cases l with
        | nil => cases hl
        | cons x t =>
          simp only [List.head?_cons, Option.map_some, Option.some.injEq, zkey, Prod.mk.injEq] at hl
          simp only [List.map_cons, List.headD_cons, hl.2.1]
          rcases h.tail hr with h1 | ⟨h1, h2⟩
          · exact .inl ⟨_, _, _, _, rfl, rfl, h1⟩
          · exact .inr (.inr ⟨h1, h2⟩)
    · exact .inr (.inl ⟨_, _, rfl, rfl, hr⟩)
theorem Gd.left (h : Like r e1 e2) {f : List Tz → Pr (List Tw)} (hf : Gd r e1 e2 f) (v : List (List UInt8 × Nat)) (once : Bool) : ∀ (n : Nat) (t : List Tw), Gd r e1 e2 (leftP f v once n t)
  | 0, t => Gd.out
  | n + 1, t => by
    have ih := fun t => Gd.left h hf v once n t
    have body : ∀ p : List UInt8 × Nat, Gd r e1 e2 (fun l => (f l.tail).bind fun u l1 => (ofP (tw p.2) [t, u] l1).bind fun t2 l2 => if once then .ok t2 l2 false else leftP f v once n t2 l2) := fun p =>
      (hf.tail h).bind fun u => (Gd.of _ _).bind fun t2 => by
        cases once
        · exact ih t2
        · exact Gd.ok t2 false
    have e : ∀ l, leftP f v once (n + 1) t l = match v.find? (fun p => YtbcadlocldplfaaDoor.isT p.1 l) with
        | none => .ok t l false
        | some p => (f l.tail).bind fun u l1 => (ofP (tw p.2) [t, u] l1).bind fun t2 l2 => if once then .ok t2 l2 false else leftP f v once n t2 l2 := fun l => by rw [leftP]; cases List.find? (fun p => YtbcadlocldplfaaDoor.isT p.1 l) v <;> rfl
    refine ⟨fun l hl => ?_, fun l hl => ?_, fun l l2 hr => ?_⟩
    · rw [e]
      split
      · exact hl
      · exact (body _).u1 l hl
    · rw [e]
      split
      · exact hl
      · exact (body _).u2 l hl
    · rw [e, e, show (fun p : List UInt8 × Nat => YtbcadlocldplfaaDoor.isT p.1 l) = fun p => YtbcadlocldplfaaDoor.isT p.1 l2 from funext fun p => h.isT hr p.1]
      split
      · exact .inl ⟨_, _, _, _, rfl, rfl, hr⟩
      · exact (body _).b l l2 hr
theorem Gd.listG (h : Like r e1 e2) {f : List Tz → Pr (List Tw)} (hf : Gd r e1 e2 f) (s : List UInt8) : ∀ (n : Nat) (acc : List (List Tw)), Gd r e1 e2 (listP f s n acc)
  | 0, acc => Gd.out
  | n + 1, acc => by
    have ih := fun acc => Gd.listG h hf s n acc
    have e : listP f s (n + 1) acc = fun l => (f l).bind fun t l1 => if YtbcadlocldplfaaDoor.isT s l1 then .ok (acc ++ [t]) l1.tail false else (mustP [44] l1).bind fun _ l2 => listP f s n (acc ++ [t]) l2 := by funext l; rw [listP]
    rw [e]
    exact hf.bind fun t => (Gd.okt h _ _).isT h ((Gd.must h _).bind fun _ => ih _)
theorem Gd.lis (h : Like r e1 e2) {f : List Tz → Pr (List Tw)} (hf : Gd r e1 e2 f) (s : List UInt8) (n : Nat) : Gd r e1 e2 (lisP f s n) :=
  (Gd.okt h _ _).isT h (Gd.listG h hf s n [])
theorem Gd.post (h : Like r e1 e2) {f : List Tz → Pr (List Tw)} (hf : Gd r e1 e2 f) : ∀ (n : Nat) (t : List Tw), Gd r e1 e2 (postP f n t)
  | 0, t => Gd.out
  | n + 1, t => by
    have ih := fun t => Gd.post h hf n t
    have e : postP f (n + 1) t = fun l => if YtbcadlocldplfaaDoor.isT [91] l then (f l.tail).bind fun u l1 => (ofP (tw 42) [t, u] l1).bind fun t2 l2 => (mustP [93] l2).bind fun _ l3 => postP f n t2 l3 else .ok t l false := by funext l; rw [postP]
    rw [e]
    exact ((hf.tail h).bind fun u => (Gd.of _ _).bind fun t2 => (Gd.must h _).bind fun _ => ih _).isT h (Gd.ok _ _)
theorem Gd.stmts (h : Like r e1 e2) {f : List Tz → Pr (List Tw)} (hf : Gd r e1 e2 f) : ∀ (n : Nat) (acc : List (List Tw)), Gd r e1 e2 (stmtsP f n acc)
  | 0, acc => Gd.out
  | n + 1, acc => by
    have ih := fun acc => Gd.stmts h hf n acc
    have e : stmtsP f (n + 1) acc = fun l => if YtbcadlocldplfaaDoor.isT [125] l then .ok acc l.tail false else (f l).bind fun t l1 => stmtsP f n (acc ++ [t]) l1 := by funext l; rw [stmtsP]
    rw [e]
    exact (Gd.okt h _ _).isT h (hf.bind fun t => ih _)
theorem Gd.one (h : Like r e1 e2) {f : List Tz → Pr (List Tw)} (hf : Gd r e1 e2 f) (op : Nat) : Gd r e1 e2 (oneP f op) :=
  (Gd.must h _).bind fun _ => hf.bind fun _ => (Gd.must h _).bind fun _ => Gd.of _ _
theorem Gd.ask (h : Like r e1 e2) {f : List Tz → Pr (List Tw)} (hf : Gd r e1 e2 f) (n op : Nat) : Gd r e1 e2 (askP f n op) :=
  (Gd.own h).bind fun _ => (Gd.must h _).bind fun _ => (Gd.lis h hf _ _).bind fun _ => Gd.of _ _
theorem Gd.word (h : Like r e1 e2) {f g : List Tz → Pr (List Tw)} (hf : Gd r e1 e2 f) (hg : Gd r e1 e2 g) (n : Nat) : Gd r e1 e2 (wordP f g n) := by
  unfold wordP
  have o : ∀ op, Gd r e1 e2 (fun l => oneP f op l.tail) := fun op => (Gd.one h hf op).tail h
  have a : ∀ op, Gd r e1 e2 (fun l => askP f n op l.tail) := fun op => (Gd.ask h hf n op).tail h
  refine (Gd.okt h _ _).isT h ((Gd.okt h _ _).isT h ((Gd.okt h _ _).isT h ((Gd.okt h _ _).isT h (Gd.isT h ?_ (Gd.isT h ?_ ((o _).isT h ((o _).isT h ((o _).isT h ((o _).isT h ((o _).isT h (Gd.isT h ?_ (Gd.isT h ?_ (Gd.isT h ?_ ((a _).isT h ((a _).isT h Gd.bad)))))))))))))))
  · exact ((Gd.lis h hf _ _).tail h).bind fun _ => Gd.of _ _
  · exact (hf.tail h).bind fun _ => (Gd.must h _).bind fun _ => Gd.ok _ _
  · exact ((Gd.must h _).tail h).bind fun _ => hf.bind fun _ => (Gd.must h _).bind fun _ => hf.bind fun _ => (Gd.must h _).bind fun _ => Gd.of _ _
  · exact (hg.tail h).bind fun _ => Gd.of _ _
  · exact ((Gd.own h).tail h).bind fun _ => Gd.ok _ _
theorem Gd.prim (h : Like r e1 e2) {f g : List Tz → Pr (List Tw)} (hf : Gd r e1 e2 f) (hg : Gd r e1 e2 g) (n : Nat) : Gd r e1 e2 (primP f g n) := by
  have hw := Gd.word h hf hg n
  have un : ∀ (e : List Tz → Prop) (l : List Tz), e l → e l.tail → Esc e (wordP f g n l) → Esc e (primP f g n l) := fun e l h1 h2 h3 => by
    cases l with
    | nil => exact h1
    | cons x t =>
      unfold primP
      dsimp only
      split
      · exact h2
      · split
        · exact h2
        · split
          · exact h2
          · exact h3
  refine ⟨fun l hl => un e1 l hl (h.t1 hl) (hw.u1 l hl), fun l hl => un e2 l hl (h.t2 hl) (hw.u2 l hl), fun l l2 hr => ?_⟩
  have hl := h.look hr
  have hm := h.mineT hr
  have hww := hw.b l l2 hr
  have htl := h.tail hr
  cases l with
  | nil => cases l2 with
    | nil => exact .inr (.inl ⟨_, _, rfl, rfl, hr⟩)
    | cons y t => cases hl
  | cons x t => cases l2 with
    | nil => cases hl
    | cons y t2 =>
      simp only [List.head?_cons, Option.map_some, Option.some.injEq, zkey, Prod.mk.injEq] at hl
      have ok : ∀ tr : List Tw, Res r e1 e2 (.ok tr t false) (.ok tr t2 false) := fun tr => by
        rcases htl with h1 | ⟨h1, h2⟩
        · exact .inl ⟨_, _, _, _, rfl, rfl, h1⟩
        · exact .inr (.inr ⟨h1, h2⟩)
      unfold primP
      dsimp only
      rw [hl.1, hl.2.1, hl.2.2, hm]
      split
      · exact ok _
      · split
        · exact ok _
        · split
          · exact ok _
          · exact hww
theorem Gd.stmt (h : Like r e1 e2) {f g : List Tz → Pr (List Tw)} (hf : Gd r e1 e2 f) (hg : Gd r e1 e2 g) : Gd r e1 e2 (stmtP f g) := by
  unfold stmtP
  have un : ∀ op, Gd r e1 e2 (fun l => (f l.tail).bind fun t l1 => ofP (tw op) [t] l1) := fun op => (hf.tail h).bind fun _ => Gd.of _ _
  refine Gd.mineT h ?_ (Gd.isT h ?_ (Gd.isT h ?_ (Gd.isT h ?_ ((un _).isT h ((un _).isT h ((un _).isT h ((un _).isT h Gd.bad)))))))
  · exact (Gd.own h).bind fun _ => (Gd.must h _).bind fun _ => hf.bind fun _ => Gd.of _ _
  · exact ((Gd.own h).tail h).bind fun _ => (Gd.must h _).bind fun _ => hf.bind fun _ => Gd.of _ _
  · exact (hf.tail h).bind fun _ => hg.bind fun _ => Gd.isT h ((hg.tail h).bind fun _ => Gd.of _ _) (Gd.of _ _)
  · exact (hf.tail h).bind fun _ => hg.bind fun _ => Gd.of _ _
theorem Gd.pre (h : Like r e1 e2) {p q f : List Tz → Pr (List Tw)} (hp : Gd r e1 e2 p) (hq : Gd r e1 e2 q) (hf : Gd r e1 e2 f) (n : Nat) : Gd r e1 e2 (preP p q f n) := by
  unfold preP
  have un : ∀ op, Gd r e1 e2 (fun l => (p l.tail).bind fun t l1 => ofP (tw op) [t] l1) := fun op => (hp.tail h).bind fun _ => Gd.of _ _
  exact (un _).isT h ((un _).isT h ((un _).isT h (hq.bind fun _ => Gd.post h hf n _)))
theorem Gd.all (h : Like r e1 e2) : ∀ (n : Nat) (nt : Nt), Gd r e1 e2 (P n nt)
  | 0, nt => Gd.out
  | n + 1, nt => by
    have ih := Gd.all h n
    have lv : ∀ (nt2 : Nt) (v : List (List UInt8 × Nat)) (once : Bool), Gd r e1 e2 (fun l => (P n nt2 l).bind (leftP (P n nt2) v once n)) := fun nt2 v once => (ih nt2).bind fun t => Gd.left h (ih nt2) v once n t
    cases nt with
    | expr => exact lv .and_ sOr false
    | and_ => exact lv .not_ sAnd false
    | not_ => exact Gd.isT h (((ih .not_).tail h).bind fun _ => Gd.of _ _) (lv .sum sCmp true)
    | sum => exact lv .term sSum false
    | term => exact lv .pre sTerm false
    | pre => exact Gd.pre h (ih .pre) (ih .prim) (ih .expr) n
    | prim => exact Gd.prim h (ih .expr) (ih .block) n
    | block => exact (Gd.must h _).bind fun _ => (Gd.stmts h (ih .stmt) n []).bind fun _ => Gd.of _ _
    | stmt => exact Gd.stmt h (ih .expr) (ih .block)
theorem Gd.param (h : Like r e1 e2) : Gd r e1 e2 paramP := (Gd.own h).bind fun _ => Gd.ok _ _
theorem Gd.flow (h : Like r e1 e2) (n : Nat) : Gd r e1 e2 (flowP n) :=
  (Gd.must h _).bind fun _ => (Gd.own h).bind fun _ => (Gd.must h _).bind fun _ => (Gd.lis h (Gd.param h) _ _).bind fun _ => (Gd.all h n .block).bind fun _ => Gd.of _ _
end
def SameZ (l l2 : List Tz) : Prop := l.map zkey = l2.map zkey
theorem SameZ.like : Like SameZ (fun _ => False) (fun _ => False) where
  look {l l2} h := by
    unfold SameZ at h
    rw [← List.head?_map, ← List.head?_map, h]
  tail {l l2} h := .inl (by
    unfold SameZ at *
    rw [List.map_tail, List.map_tail, h])
  t1 h := h
  t2 h := h
def Begins (b c l l2 : List Tz) : Prop := ∃ a, a ≠ [] ∧ l = a ++ b ∧ l2 = a ++ c
theorem Begins.like (b c : List Tz) : Like (Begins b c) (fun l => l.length ≤ b.length) (fun l => l.length ≤ c.length) where
  look {l l2} h := by
    obtain ⟨a, ha, rfl, rfl⟩ := h
    cases a with
    | nil => exact absurd rfl ha
    | cons x t => rfl
  tail {l l2} h := by
    obtain ⟨a, ha, rfl, rfl⟩ := h
    cases a with
    | nil => exact absurd rfl ha
    | cons x t =>
      cases t with
      | nil => exact .inr ⟨by simp, by simp⟩
      | cons y t => exact .inl ⟨y :: t, by simp, rfl, rfl⟩
  t1 h := by rw [List.length_tail]; omega
  t2 h := by rw [List.length_tail]; omega
end Go.Proofs.YtbcadlocldplfaaDoor
