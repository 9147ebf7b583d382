/- RaftKnown's walk. -/
import Derived.Test.YtjodglepaeomiaaNet
namespace Go.Proofs.Ytjodglepaeomiaa
open Go.RowKit

def S3 (i : Nat) : Sv := Sv.begin_ i 3 0 (-1) []
def ptrs (l : List (Nat × Sv)) : List Value := l.map (fun p => .pointer (some ⟨p.1, 0, none⟩)) ++ List.replicate (3 - l.length) (.pointer none)
theorem ptrs_push (l : List (Nat × Sv)) (p : Nat × Sv) (hl : l.length < 3) : (ptrs l).set l.length (.pointer (some ⟨p.1, 0, none⟩)) = ptrs (l ++ [p]) := by
  match l, hl with
  | [], _ => rfl
  | [_], _ => rfl
  | [_, _], _ => rfl
theorem S3_good {i : Nat} (hi : i < 3) : (S3 i).Good := by
  have h := begin_good (id := (i : Nat)) (n := 3) (t := 0) (v := -1) (L := []) (by omega) (by rfl)
  exact h
/-- The chapter's example, in the model. -/
def kT0 : Sv := (S3 0).tick.1
def kAsk : Mg := kT0.ask 1
def kV1 : Sv := ((S3 1).handle kAsk).1
def kVote : Mg := kV1.ans kAsk 2 0 true
def kOth : Mg := { kAsk with frm := 2 }
def kV2 : Sv := (kV1.handle kOth).1
def kNo : Mg := kV2.ans kOth 2 0 false
def kL0 : Sv := (kT0.handle kVote).1
def kApp : Mg := kL0.send 1
def kA1 : Sv := (kV2.handle kApp).1
def kBack : Mg := kA1.ans kApp 4 1 true
def kL1 : Sv := (kL0.handle kBack).1
def kL2 : Sv := (kL1.propose ⟨#[120]⟩).1
def kL3 : Sv := kL2.tick.1
theorem k_ask : (S3 0).tick.2 = [kAsk, kT0.ask 2] := by kernel_rfl
theorem k_vote : ((S3 1).handle kAsk).2 = [kVote] := by kernel_rfl
theorem k_no : (kV1.handle kOth).2 = [kNo] := by kernel_rfl
theorem k_app : (kT0.handle kVote).2 = [kApp, kL0.send 2] := by kernel_rfl
theorem k_back : (kV2.handle kApp).2 = [kBack] := by kernel_rfl
theorem k_none : (kL0.handle kBack).2 = [] := by kernel_rfl
theorem k_two : (kL1.propose ⟨#[120]⟩).2 = (2, 0) := by kernel_rfl
theorem k_next : kL2.tick.2 = [kL2.send 1, kL2.send 2] := by kernel_rfl
theorem k_y : ((S3 2).propose ⟨#[121]⟩) = (S3 2, 0, 270) := by rfl
theorem k_facts : kV2.vote = 0 ∧ kV2.n = 3 ∧ kL0.leader = 0 ∧ kL0.n = 3 ∧ kL1.commit = 1 ∧ kL1.n = 3 ∧ kApp.ents.length = 1 ∧ (kL2.send 1).index = 1 ∧ (kL2.send 2).ents.length = 2 := ⟨by kernel_rfl, by kernel_rfl, by kernel_rfl, by kernel_rfl, by kernel_rfl, by kernel_rfl, by kernel_rfl, by kernel_rfl, by kernel_rfl⟩
def mgOkB (m : Mg) : Bool :=
  decide (m.kind < 256) && (decide (-9223372036854775808 ≤ m.frm) && decide (m.frm ≤ 9223372036854775807)) && (decide (-9223372036854775808 ≤ m.to) && decide (m.to ≤ 9223372036854775807)) && (decide (-9223372036854775808 ≤ m.term) && decide (m.term ≤ 9223372036854775807))
    && (decide (-9223372036854775808 ≤ m.index) && decide (m.index ≤ 9223372036854775807)) && (decide (-9223372036854775808 ≤ m.logTerm) && decide (m.logTerm ≤ 9223372036854775807)) && (decide (-9223372036854775808 ≤ m.commit) && decide (m.commit ≤ 9223372036854775807)) && decide (m.ents.length ≤ 9223372036854775807)
theorem mgOk_of {m : Mg} (h : mgOkB m = true) : MgOk m := by
  unfold mgOkB at h
  simp only [Bool.and_eq_true, decide_eq_true_eq] at h
  obtain ⟨⟨⟨⟨⟨⟨⟨h1, h2⟩, h3⟩, h4⟩, h5⟩, h6⟩, h7⟩, h8⟩ := h
  exact ⟨h1, h2, h3, h4, h5, h6, h7, h8⟩
theorem kAsk_ok : MgOk kAsk := mgOk_of (by kernel_rfl)
theorem kOth_ok : MgOk kOth := mgOk_of (by kernel_rfl)
theorem kVote_ok : MgOk kVote := mgOk_of (by kernel_rfl)
theorem kApp_ok : MgOk kApp := mgOk_of (by kernel_rfl)
theorem kBack_ok : MgOk kBack := mgOk_of (by kernel_rfl)
theorem kT0_good : kT0.Good := (S3_good (by decide)).tick
theorem kV1_good : kV1.Good := (S3_good (by decide)).handle
theorem kV2_good : kV2.Good := kV1_good.handle
theorem kL0_good : kL0.Good := kT0_good.handle
theorem kA1_good : kA1.Good := kV2_good.handle
theorem kL1_good : kL1.Good := kL0_good.handle
theorem kL2_good : kL2.Good := kL1_good.propose
theorem kL3_good : kL3.Good := kL2_good.tick
/-- Servers whose pointers lie in a row. -/
def Stg (w0 w : World) (X : Nat → Prop) (l : List (Nat × Sv)) : Prop :=
  Srvs w X l ∧ Blk w w0.heap.size 23 (ptrs l).toArray ∧ (∀ b, X b → b < w.heap.size) ∧ (∀ b, b ≤ w0.heap.size → X b) ∧ Below w0.heap.size w0 w
theorem ptrs_set {l : List (Nat × Sv)} {i g : Nat} {S S' : Sv} (hi : l[i]? = some (g, S)) : ptrs (l.set i (g, S')) = ptrs l := by
  unfold ptrs
  rw [List.map_set, List.length_set]
  congr 1
  apply List.ext_getElem?
  intro j
  by_cases hj : i = j
  · subst hj
    have hl := (List.getElem?_eq_some_iff.1 hi).1
    rw [List.getElem?_set_self (by simpa using hl), List.getElem?_map, hi]; rfl
  · rw [List.getElem?_set_ne hj]
theorem Stg.chg {w0 w w' : World} {X X' : Nat → Prop} {l : List (Nat × Sv)} (h : Stg w0 w X l) (hc : Chg (fun b => w0.heap.size < b ∧ X b) w w') (hX : ∀ b, X b → X' b) (hX1 : ∀ b, X' b → X b ∨ w.heap.size ≤ b) (hX2 : ∀ b, X' b → b < w'.heap.size) : Stg w0 w' X' l :=
  ⟨h.1.chg (hc.mono (fun b hb => hb.2)) hX1, h.2.1.chg hc (fun hb => Nat.lt_irrefl _ hb.1), hX2, fun b hb => hX b (h.2.2.2.1 b hb), Chg.below h.2.2.2.2 hc (Nat.le_of_lt (h.2.2.1 _ (h.2.2.2.1 _ (Nat.le_refl _)))) (fun b hb => Nat.le_of_lt hb.1)⟩
theorem Stg.below {w0 w w' : World} {X : Nat → Prop} {l : List (Nat × Sv)} (h : Stg w0 w X l) (hb : Below w.heap.size w w') : Stg w0 w' X l :=
  h.chg ((Chg.of_below hb : Chg (fun _ => False) w w').mono (fun _ h => h.elim)) (fun _ h => h) (fun _ h => .inl h) (fun b hx => Nat.lt_of_lt_of_le (h.2.2.1 b hx) hb.size)
theorem Stg.by_ {w0 w w' : World} {X X' : Nat → Prop} {l : List (Nat × Sv)} {i g : Nat} {S S' : Sv} (h : Stg w0 w X l) (hi : l[i]? = some (g, S)) (h1 : ∀ b, X b → X' b) (h2 : ∀ b, X' b → b < w'.heap.size) (h3 : Srvs w' X' (l.set i (g, S'))) (h5 : Chg (fun b => ¬ X b) w w') : Stg w0 w' X' (l.set i (g, S')) := by
  refine ⟨h3, ?_, h2, fun b hb => h1 b (h.2.2.2.1 b hb), Chg.below h.2.2.2.2 h5 (Nat.le_of_lt (h.2.2.1 _ (h.2.2.2.1 _ (Nat.le_refl _)))) (fun b hb => Nat.le_of_lt (Nat.lt_of_not_le (fun hle => hb (h.2.2.2.1 b hle))))⟩
  rw [ptrs_set hi]
  exact h.2.1.chg h5 (fun hn => hn (h.2.2.2.1 _ (Nat.le_refl _)))
theorem Stg.did {w0 w w' : World} {X : Nat → Prop} {l : List (Nat × Sv)} {i g : Nat} {S S' : Sv} {ms : List Mg} {e : Ending} (h : Stg w0 w X l) (hi : l[i]? = some (g, S)) (hd : Did w X l i g S' ms e w') :
    ∃ (D : Option Addr) (d : Nat) (X' : Nat → Prop), e = .returned (.slice D ms.length d) ∧ Stg w0 w' X' (l.set i (g, S')) ∧ MsX w' X' D ms.length d ms ∧ (∀ b, X b → X' b) ∧ Chg (fun b => ¬ X b) w w' := by
  obtain ⟨D, d, X', rfl, h1, h2, h3, h4, h5⟩ := hd
  exact ⟨D, d, X', rfl, h.by_ hi h1 h2 h3 h5, h4, h1, h5⟩
theorem MsX.keep {w w' : World} {X X' : Nat → Prop} {D : Option Addr} {n c : Nat} {ms : List Mg} (h : MsX w X D n c ms) (hX : ∀ b, X b → X' b) (hc : Chg (fun b => ¬ X b) w w') : MsX w' X' D n c ms := (h.chg hc).mono hX
def eOne : Ent := ⟨1, ⟨#[]⟩⟩
def eNil : Ent := ⟨0, ⟨#[]⟩⟩
theorem rises_replicate (t : Int) (ht : 1 ≤ t) : ∀ n, rises (List.replicate n eOne) 1 t = true
  | 0 => rfl
  | n + 1 => by
    rw [List.replicate_succ, rises]
    have h := rises_replicate t ht n
    rw [show eOne.term = 1 from rfl, h]
    simp only [Bool.and_true, Bool.not_eq_true', Bool.or_eq_false_iff, decide_eq_false_iff_not]
    exact ⟨⟨by omega, by omega⟩, by decide⟩
theorem termAt_replicate (n k : Nat) (hk : k < n) : termAt (List.replicate n eOne) (k + 1) = 1 := by
  rw [termAt, List.getElem?_replicate, if_pos hk]; rfl
theorem lead_n (S : Sv) : S.lead.n = S.n := by unfold Sv.lead Sv.agree Sv.lead2; split <;> rfl
theorem lead_id (S : Sv) : S.lead.id = S.id := by unfold Sv.lead Sv.agree Sv.lead2; split <;> rfl
theorem lead_role (S : Sv) : S.lead.role = 2 := by unfold Sv.lead Sv.agree Sv.lead2; split <;> rfl
theorem lead_term (S : Sv) : S.lead.term = S.term := by unfold Sv.lead Sv.agree Sv.lead2; split <;> rfl
theorem lead_full {S : Sv} (h : ¬ S.log.length < 4096) : S.lead = S.lead1.agree := by unfold Sv.lead Sv.lead2; rw [if_neg h]
theorem outs_one {S : Sv} (h1 : S.n = 1) (h2 : S.id = 0) : S.outs = [] := by unfold Sv.outs Sv.ks; rw [h1, h2]; rfl
def kOne : Sv := Sv.begin_ 0 1 1152921504606846975 0 (List.replicate 4096 eOne)
theorem kOne_may : mayB 1152921504606846975 0 (List.replicate 4096 eOne) 1 = true := by
  unfold mayB
  rw [rises_replicate _ (by decide), Bool.and_true, decide_eq_true_eq, List.length_replicate]
  omega
theorem kOne_good : kOne.Good := begin_good (id := 0) (n := 1) (by omega) kOne_may
theorem kOne_len : kOne.log.length = 4096 := List.length_replicate
theorem kOne_tick : kOne.tick = (kOne.cand.lead1.agree, []) := by
  have e : kOne.cand.lead = kOne.cand.lead1.agree := lead_full (by show ¬ kOne.log.length < 4096; rw [kOne_len]; omega)
  have h1 : kOne.cand.lead.n = 1 := lead_n _
  have h2 : kOne.cand.lead.id = 0 := lead_id _
  unfold Sv.tick
  rw [if_neg (show ¬ kOne.role = 2 from fun h => absurd (show (0 : Nat) = 2 from h) (by decide)), if_neg (show ¬ kOne.term = 1152921504606846976 from fun h => absurd (show (1152921504606846975 : Int) = 1152921504606846976 from h) (by decide)), if_pos (show kOne.n = 1 from rfl), outs_one h1 h2, e]
def kTop : Sv := kOne.cand.lead1.agree
theorem agree_commit (S : Sv) : S.agree.commit = S.agr S.log.length := rfl
theorem cl_log (S : Sv) : S.cand.lead1.log = S.log := rfl
theorem cl_term (S : Sv) : S.cand.lead1.term = S.term + 1 := rfl
theorem cl_commit (S : Sv) : S.cand.lead1.commit = S.commit := rfl
theorem kTop_commit : kTop.commit = 0 := by
  unfold kTop
  rw [agree_commit, cl_log, kOne_len, agr_stop (fun h => ?_), cl_commit]
  · rfl
  · have h3 := h.2
    rw [cl_log, cl_term] at h3
    have h2 : termAt kOne.log (4095 + 1) = 1 := termAt_replicate 4096 4095 (by omega)
    have h4 : kOne.term = 1152921504606846975 := rfl
    rw [h4] at h3
    rw [h2] at h3
    omega
theorem kTop_propose : (kTop.propose ⟨#[122]⟩) = (kTop, 0, 7) := by
  unfold Sv.propose
  rw [if_neg (by show ¬ ((2 : Nat) ≠ 2); omega), if_neg (by decide), if_pos (show kTop.log.length = 4096 from kOne_len)]
theorem kTop_good : kTop.Good := by have h := kOne_good.tick; rw [kOne_tick] at h; exact h
def kTwo : Sv := Sv.begin_ 0 2 1152921504606846976 (-1) []
theorem kTwo_good : kTwo.Good := begin_good (id := 0) (n := 2) (by omega) (by rfl)
theorem kTwo_tick : kTwo.tick = (kTwo, []) := by
  unfold Sv.tick
  rw [if_neg (by decide), if_pos (show kTwo.term = 1152921504606846976 from rfl)]
theorem made_ents (n : Nat) : (madeCells #[.int .i64 0, .string ⟨#[]⟩] (n * 2)).toList = rowOf ecell (List.replicate n eNil) := by
  apply List.ext_getElem?
  intro i
  by_cases hi : i < n * 2
  · have hq : i / 2 < n := by omega
    have hx : (List.replicate n eNil)[i / 2]? = some eNil := by rw [List.getElem?_replicate, if_pos hq]
    have e : i / 2 * 2 + i % 2 = i := by omega
    unfold madeCells
    rcases (show i % 2 = 0 ∨ i % 2 = 1 by omega) with h | h
    · have h2 := rowOf_get ecell_len _ (i / 2) _ 0 (.int .i64 0) hx rfl
      rw [show i / 2 * 2 + 0 = i by omega] at h2
      rw [h2]; simp [hi, h]
    · have h2 := rowOf_get ecell_len _ (i / 2) _ 1 (.string ⟨#[]⟩) hx rfl
      rw [show i / 2 * 2 + 1 = i by omega] at h2
      rw [h2]; simp [hi, h]
  · rw [List.getElem?_eq_none (by unfold madeCells; simp; omega), List.getElem?_eq_none (by rw [rowOf_length ecell_len, List.length_replicate]; omega)]
theorem row_set : ∀ (L : List Ent) (k : Nat) (x : Ent) (t : Int), L[k]? = some x → (rowOf ecell L).set (k * 2) (.int .i64 t) = rowOf ecell (L.set k ⟨t, x.data⟩)
  | y :: r, 0, x, t, h => by
    have h := Option.some.inj h
    subst h
    rfl
  | y :: r, k + 1, x, t, h => by
    rw [rowOf_cons, List.set_cons_succ, rowOf_cons, List.set_append_right _ _ (by rw [ecell_len]; omega), ecell_len, show (k + 1) * 2 - 2 = k * 2 by omega]
    congr 1
    exact row_set r k x t h
theorem rep_set (n k : Nat) (hk : k < n) : (List.replicate k eOne ++ List.replicate (n - k) eNil).set k ⟨1, ⟨#[]⟩⟩ = List.replicate (k + 1) eOne ++ List.replicate (n - (k + 1)) eNil := by
  obtain ⟨m, hm⟩ : ∃ m, n - k = m + 1 := ⟨n - k - 1, by omega⟩
  rw [List.set_append_right _ _ (by rw [List.length_replicate]; exact Nat.le_refl _), List.length_replicate, Nat.sub_self, hm, List.replicate_succ, List.set_cons_zero, show n - (k + 1) = m by omega, List.replicate_succ' (n := k), List.append_assoc]
  rfl
end Go.Proofs.Ytjodglepaeomiaa
