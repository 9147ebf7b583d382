/- Contracts of newer, best, SameLog and rest, and the turns of a net in memory. -/
import Derived.Test.YtjodglepaeomiaaNpl
import Derived.Test.YtjodglepaeomiaaLvx
namespace Go.Proofs.Ytjodglepaeomiaa
open Go.RowKit
section

def nwB (p q : Int) (la lb : Nat) : Bool := decide (q < p) || (decide (p = q) && decide (lb < la))
set_option maxRecDepth 100000 in
set_option maxHeartbeats 8000000 in
theorem newer_any (A A' : Option Addr) (c c' : Nat) (a b : List Ent) (w : World) (hrd : RdE w A a) (hrd' : RdE w A' b) (hla : a.length ≤ 9223372036854775807) (hlb : b.length ≤ 9223372036854775807) :
    Calls Try.prog 51 #[.slice A a.length c, .slice A' b.length c'] w fun e w' => e = .returned (.bool (nwB (termAt a a.length) (termAt b b.length) a.length b.length)) ∧ w' = w := by
  obtain ⟨R, hR⟩ : ∃ R, R = nwB (termAt a a.length) (termAt b b.length) a.length b.length := ⟨_, rfl⟩
  obtain ⟨p, hp⟩ : ∃ p, p = termAt a a.length := ⟨_, rfl⟩
  obtain ⟨q, hq⟩ : ∃ q, q = termAt b b.length := ⟨_, rfl⟩
  obtain ⟨la, hn⟩ : ∃ n, n = a.length := ⟨_, rfl⟩
  obtain ⟨lb, hm⟩ : ∃ n, n = b.length := ⟨_, rfl⟩
  have HH := Lib.hid (And.intro hrd hrd')
  have HVp := Lib.hid hp
  have HVq := Lib.hid hq
  have HNla := Lib.hid hn
  have HNlb := Lib.hid hm
  rw [← hR]
  rw [← hp, ← hq, ← hn, ← hm] at hR
  rw [← hn] at hla
  rw [← hm] at hlb
  rw [← hn, ← hm]
  have HR := Lib.hid hR
  clear hrd hrd' hp hq hn hm hR
  go_enter Try.func51, Try.ntmps51
  by_cases zla : la = 0
  · have pla : decide ((la : Int) > 0) = false := decide_eq_false (by omega)
    have qla : p = 0 := by rw [HVp.out, HNla.out.symm, zla]; rfl
    have HZla := Lib.hid zla
    have p'la : decide (0 < la) = false := decide_eq_false (by omega)
    clear zla
    subst qla
    by_cases zlb : lb = 0
    · have plb : decide ((lb : Int) > 0) = false := decide_eq_false (by omega)
      have qlb : q = 0 := by rw [HVq.out, HNlb.out.symm, zlb]; rfl
      have HZlb := Lib.hid zlb
      have p'lb : decide (0 < lb) = false := decide_eq_false (by omega)
      clear zlb
      subst qlb
      go_wp2_with fail
      go_ret
      exact ⟨ret_bool (by rw [HR.out]; unfold nwB; simp [HZla.out, HZlb.out]), rfl⟩
    · have plb : decide ((lb : Int) > 0) = true := decide_eq_true (by omega)
      have p'lb : decide (0 < lb) = true := decide_eq_true (by omega)
      obtain ⟨xlb, hxlb⟩ : ∃ x, b[lb - 1]? = some x := ⟨_, List.getElem?_eq_getElem (by have := HNlb.out; omega)⟩
      obtain ⟨blb, offlb, hElb, _, clb, _⟩ := HH.out.2.ents hxlb
      have qlb : q = xlb.term := by
        rw [HVq.out, HNlb.out.symm, show lb = (lb - 1) + 1 by omega]
        exact termAt_get hxlb
      rw [← qlb] at clb
      have ilb : (0 : Int) ≤ (lb : Int) - 1 := by omega
      have jlb : (lb : Int) - 1 < (lb : Int) := by omega
      have klb : ((lb : Int) - 1).toNat = lb - 1 := by omega
      clear qlb
      subst hElb
      by_cases h1 : q < (0 : Int)
      · have d1 : decide ((0 : Int) > q) = true := decide_eq_true h1
        have d1' : decide (q < (0 : Int)) = true := decide_eq_true h1
        go_wp2_with fail
        go_ret
        exact ⟨ret_bool (by rw [HR.out]; unfold nwB; simp [h1]), rfl⟩
      · have d1 : decide ((0 : Int) > q) = false := decide_eq_false h1
        have d1' : decide (q < (0 : Int)) = false := decide_eq_false h1
        by_cases h2 : (0 : Int) = q
        · have d2 : ((0 : Int) == q) = true := by simp [h2]
          by_cases h3 : lb < la
          · have d3 : decide ((la : Int) > (lb : Int)) = true := decide_eq_true (by omega)
            have d3' : decide (lb < la) = true := decide_eq_true h3
            have HD := Lib.hid (And.intro h1 (And.intro h2 h3))
            clear h1 h2 h3
            go_wp2_with fail
            go_ret
            exact ⟨ret_bool (by rw [HR.out]; unfold nwB; simp [HD.out.1, HD.out.2.1, HD.out.2.2]), rfl⟩
          · have d3 : decide ((la : Int) > (lb : Int)) = false := decide_eq_false (by omega)
            have d3' : decide (lb < la) = false := decide_eq_false h3
            have HD := Lib.hid (And.intro h1 (And.intro h2 h3))
            clear h1 h2 h3
            go_wp2_with fail
            go_ret
            exact ⟨ret_bool (by rw [HR.out]; unfold nwB; simp [HD.out.1, HD.out.2.1, HD.out.2.2]), rfl⟩
        · have d2 : ((0 : Int) == q) = false := by simp [h2]
          go_wp2_with fail
          go_ret
          exact ⟨ret_bool (by rw [HR.out]; unfold nwB; simp [h1, h2]), rfl⟩
  · have pla : decide ((la : Int) > 0) = true := decide_eq_true (by omega)
    have p'la : decide (0 < la) = true := decide_eq_true (by omega)
    obtain ⟨xla, hxla⟩ : ∃ x, a[la - 1]? = some x := ⟨_, List.getElem?_eq_getElem (by have := HNla.out; omega)⟩
    obtain ⟨bla, offla, hEla, _, cla, _⟩ := HH.out.1.ents hxla
    have qla : p = xla.term := by
      rw [HVp.out, HNla.out.symm, show la = (la - 1) + 1 by omega]
      exact termAt_get hxla
    rw [← qla] at cla
    have ila : (0 : Int) ≤ (la : Int) - 1 := by omega
    have jla : (la : Int) - 1 < (la : Int) := by omega
    have kla : ((la : Int) - 1).toNat = la - 1 := by omega
    clear qla
    subst hEla
    by_cases zlb : lb = 0
    · have plb : decide ((lb : Int) > 0) = false := decide_eq_false (by omega)
      have qlb : q = 0 := by rw [HVq.out, HNlb.out.symm, zlb]; rfl
      have HZlb := Lib.hid zlb
      have p'lb : decide (0 < lb) = false := decide_eq_false (by omega)
      clear zlb
      subst qlb
      by_cases h1 : (0 : Int) < p
      · have d1 : decide (p > (0 : Int)) = true := decide_eq_true h1
        have d1' : decide ((0 : Int) < p) = true := decide_eq_true h1
        go_wp2_with fail
        go_ret
        exact ⟨ret_bool (by rw [HR.out]; unfold nwB; simp [h1]), rfl⟩
      · have d1 : decide (p > (0 : Int)) = false := decide_eq_false h1
        have d1' : decide ((0 : Int) < p) = false := decide_eq_false h1
        by_cases h2 : p = (0 : Int)
        · have d2 : (p == (0 : Int)) = true := by simp [h2]
          by_cases h3 : lb < la
          · have d3 : decide ((la : Int) > (lb : Int)) = true := decide_eq_true (by omega)
            have d3' : decide (lb < la) = true := decide_eq_true h3
            have HD := Lib.hid (And.intro h1 (And.intro h2 h3))
            clear h1 h2 h3
            go_wp2_with fail
            go_ret
            exact ⟨ret_bool (by rw [HR.out]; unfold nwB; simp [HD.out.1, HD.out.2.1, HD.out.2.2]), rfl⟩
          · have d3 : decide ((la : Int) > (lb : Int)) = false := decide_eq_false (by omega)
            have d3' : decide (lb < la) = false := decide_eq_false h3
            have HD := Lib.hid (And.intro h1 (And.intro h2 h3))
            clear h1 h2 h3
            go_wp2_with fail
            go_ret
            exact ⟨ret_bool (by rw [HR.out]; unfold nwB; simp [HD.out.1, HD.out.2.1, HD.out.2.2]), rfl⟩
        · have d2 : (p == (0 : Int)) = false := by simp [h2]
          go_wp2_with fail
          go_ret
          exact ⟨ret_bool (by rw [HR.out]; unfold nwB; simp [h1, h2]), rfl⟩
    · have plb : decide ((lb : Int) > 0) = true := decide_eq_true (by omega)
      have p'lb : decide (0 < lb) = true := decide_eq_true (by omega)
      obtain ⟨xlb, hxlb⟩ : ∃ x, b[lb - 1]? = some x := ⟨_, List.getElem?_eq_getElem (by have := HNlb.out; omega)⟩
      obtain ⟨blb, offlb, hElb, _, clb, _⟩ := HH.out.2.ents hxlb
      have qlb : q = xlb.term := by
        rw [HVq.out, HNlb.out.symm, show lb = (lb - 1) + 1 by omega]
        exact termAt_get hxlb
      rw [← qlb] at clb
      have ilb : (0 : Int) ≤ (lb : Int) - 1 := by omega
      have jlb : (lb : Int) - 1 < (lb : Int) := by omega
      have klb : ((lb : Int) - 1).toNat = lb - 1 := by omega
      clear qlb
      subst hElb
      by_cases h1 : q < p
      · have d1 : decide (p > q) = true := decide_eq_true h1
        have d1' : decide (q < p) = true := decide_eq_true h1
        go_wp2_with fail
        go_ret
        exact ⟨ret_bool (by rw [HR.out]; unfold nwB; simp [h1]), rfl⟩
      · have d1 : decide (p > q) = false := decide_eq_false h1
        have d1' : decide (q < p) = false := decide_eq_false h1
        by_cases h2 : p = q
        · have d2 : (p == q) = true := by simp [h2]
          by_cases h3 : lb < la
          · have d3 : decide ((la : Int) > (lb : Int)) = true := decide_eq_true (by omega)
            have d3' : decide (lb < la) = true := decide_eq_true h3
            have HD := Lib.hid (And.intro h1 (And.intro h2 h3))
            clear h1 h2 h3
            go_wp2_with fail
            go_ret
            exact ⟨ret_bool (by rw [HR.out]; unfold nwB; simp [HD.out.1, HD.out.2.1, HD.out.2.2]), rfl⟩
          · have d3 : decide ((la : Int) > (lb : Int)) = false := decide_eq_false (by omega)
            have d3' : decide (lb < la) = false := decide_eq_false h3
            have HD := Lib.hid (And.intro h1 (And.intro h2 h3))
            clear h1 h2 h3
            go_wp2_with fail
            go_ret
            exact ⟨ret_bool (by rw [HR.out]; unfold nwB; simp [HD.out.1, HD.out.2.1, HD.out.2.2]), rfl⟩
        · have d2 : (p == q) = false := by simp [h2]
          go_wp2_with fail
          go_ret
          exact ⟨ret_bool (by rw [HR.out]; unfold nwB; simp [h1, h2]), rfl⟩
theorem UpTo_not {a b : List Ent} : Gh.UpTo a b ↔ nwB (termAt b b.length) (termAt a a.length) b.length a.length = false := by
  unfold Gh.UpTo nwB
  rw [Bool.or_eq_false_iff, Bool.and_eq_false_iff, decide_eq_false_iff_not, decide_eq_false_iff_not, decide_eq_false_iff_not]
  omega
theorem UpTo_of {a b : List Ent} (h : nwB (termAt a a.length) (termAt b b.length) a.length b.length = true) : Gh.UpTo a b := by
  unfold nwB at h
  rw [Bool.or_eq_true, Bool.and_eq_true, decide_eq_true_eq, decide_eq_true_eq, decide_eq_true_eq] at h
  unfold Gh.UpTo
  omega
theorem UpTo_trans {a b c : List Ent} (h : Gh.UpTo a b) (k : Gh.UpTo b c) : Gh.UpTo a c := by
  unfold Gh.UpTo at *
  omega
def BestPost (n : Nat) (ss : List Sv) (e : Ending) : Prop := ∃ a : Nat, e = .returned (.int .i64 (a : Nat)) ∧ Newest n a ss
set_option maxRecDepth 100000 in
set_option maxHeartbeats 8000000 in
theorem best_any {w : World} {B gN n d : Nat} {X : Nat → Prop} {ps : List (Nat × Sv)} {way : List Mx} {Z : Seen} {v : Nv} (h : Up w B gN n d X ps way Z v) (hn1 : 1 ≤ n) (who : Int) :
    Calls Try.prog 19 #[.pointer (some ⟨gN, 0, none⟩), .int .i64 who] w fun e w' => BestPost n (ps.map (·.2)) e ∧ Below w.heap.size w w' := by
  have HA := Lib.hid h
  have hpl := h.n
  have hn7 := h.s.n7
  obtain ⟨i0, hin, hiw⟩ := rem_in (who := who) (n := n) (by omega) (by omega)
  obtain ⟨p, hp⟩ : ∃ p, ps[0]? = some p := ⟨_, List.getElem?_eq_getElem (by omega)⟩
  obtain ⟨g0, S0⟩ := p
  obtain ⟨gl, hAl, _⟩ := h.m.srvAt hp
  have HV := Lib.hid hAl
  have c0 := h.m.c0
  rw [hpl, hAl] at c0
  clear h hp hAl
  go_enter Try.func19, Try.ntmps19
  go_wp2_with fail
  clear c0 hiw
  go_loopw [5, 6] (fun s5 s6 wr => ∃ at_ i : Nat, s5 = .int .i64 (at_ : Nat) ∧ s6 = .int .i64 (i : Nat) ∧ at_ < n ∧ i ≤ n ∧ (∀ j, j < i → Gh.UpTo (fn (ps.map (·.2)) at_).log (fn (ps.map (·.2)) j).log) ∧ Below w.heap.size w wr) (fun _ s6 _ => n - (intOf s6).toNat)
  case atStart => exact ⟨i0, 0, rfl, rfl, hin, by omega, fun j hj => by omega, Below.refl _ _⟩
  case round =>
    obtain ⟨at_, i, rfl, rfl, hat, hi, hup, hb⟩ := hrel
    have HB := Lib.hid hb
    have HU := Lib.hid hup
    have c0 := (HA.out.m.below hb).c0
    rw [hpl, HV.out] at c0
    clear hup hb
    by_cases hlt : i < n
    · have di : decide ((i : Int) < (n : Int)) = true := decide_eq_true (by omega)
      have i0 : (0 : Int) ≤ (i : Int) := by omega
      have i1 : (i : Int) < (n : Int) := by omega
      have a0 : (0 : Int) ≤ (at_ : Int) := by omega
      have a1 : (at_ : Int) < (n : Int) := by omega
      obtain ⟨p, hp⟩ : ∃ p, ps[at_]? = some p := ⟨_, List.getElem?_eq_getElem (by omega)⟩
      obtain ⟨p', hp'⟩ : ∃ p, ps[i]? = some p := ⟨_, List.getElem?_eq_getElem (by omega)⟩
      obtain ⟨g, S⟩ := p
      obtain ⟨g', S'⟩ := p'
      have hg : S.Good := (HA.out.s.good (sv_at hp)).1
      have hg' : S'.Good := (HA.out.s.good (sv_at hp')).1
      have hf : fn (ps.map (·.2)) at_ = S := fn_get (sv_at hp)
      have hf' : fn (ps.map (·.2)) i = S' := fn_get (sv_at hp')
      have HF := Lib.hid (And.intro hf hf')
      obtain ⟨gl1, hA1, cg⟩ := (HA.out.m.below HB.out).srvAt hp
      rw [HV.out] at hA1
      injection hA1 with hA1
      injection hA1 with hA1
      subst hA1
      have HT := Lib.hid ((HA.out.m.below HB.out).tells hp hg)
      have HT2 := Lib.hid (fun W (hW : Below w.heap.size w W) => ((HA.out.m.below hW).tells hp' hg').2.2.2)
      have HC2 := Lib.hid (fun W (hW : Below w.heap.size w W) => (show W.cell? ⟨gN, 0, none⟩ = some (.slice (some ⟨gl, 0, none⟩) n v.cl) ∧ W.cell? ⟨gl, i, none⟩ = some (.pointer (some ⟨g', 0, none⟩)) from by
        have hN := HA.out.m.below hW
        obtain ⟨gl', e1, e2⟩ := hN.srvAt hp'
        rw [HV.out] at e1
        injection e1 with e1
        injection e1 with e1
        subst e1
        exact ⟨by rw [← hpl, ← HV.out]; exact hN.c0, e2⟩))
      have hl9 := hg.len
      have hl9' := hg'.len
      clear hp hp' hg hg' hf hf'
      go_wp2_with fail
      refine HT.out.2.2.2.mono ?_
      rintro e w2 ⟨A2, c2, rfl, ho2, hb2⟩
      have H2 : Hid (Below w.heap.size w w2 ∧ RdE w2 A2 S.log) := Lib.hid ⟨HB.out.trans (hb2.mono HB.out.size), .of_own ecell_len ho2 rfl⟩
      have d0 := (HC2.out w2 H2.out.1).1
      have d1 := (HC2.out w2 H2.out.1).2
      have HT3 := Lib.hid (HT2.out w2 H2.out.1)
      clear ho2 hb2 c0 cg
      go_wp2_with fail
      refine HT3.out.mono ?_
      rintro e w3 ⟨A3, c3, rfl, ho3, hb3⟩
      have H3 : Hid (Below w.heap.size w w3 ∧ RdE w3 A2 S.log ∧ RdE w3 A3 S'.log) := Lib.hid ⟨H2.out.1.trans (hb3.mono H2.out.1.size), H2.out.2.below hb3, .of_own ecell_len ho3 rfl⟩
      have HNE := Lib.hid (newer_any A3 A2 c3 c2 S'.log S.log w3 H3.out.2.2 H3.out.2.1 (by omega) (by omega))
      obtain ⟨R, hR⟩ : ∃ R, R = nwB (termAt S'.log S'.log.length) (termAt S.log S.log.length) S'.log.length S.log.length := ⟨_, rfl⟩
      have HR := Lib.hid hR
      rw [← hR] at HNE
      obtain ⟨l', hl'⟩ : ∃ l', l' = S'.log.length := ⟨_, rfl⟩
      obtain ⟨l, hl⟩ : ∃ l, l = S.log.length := ⟨_, rfl⟩
      rw [← hl, ← hl'] at HNE
      rw [← hl, ← hl']
      clear ho3 hb3 d0 d1 hR hl hl' hl9 hl9'
      go_wp2_with fail
      refine HNE.out.mono ?_
      rintro e w4 ⟨rfl, rfl⟩
      cases R with
      | true =>
        go_wp2_with fail
        go_roundw
        case rel => exact ⟨i, i + 1, rfl, by go_num, hlt, by omega, fun j hj => by
          rw [HF.out.2]
          rcases Nat.lt_or_eq_of_le (Nat.lt_succ_iff.1 hj) with h1 | rfl
          · have h2 := HU.out j h1
            rw [HF.out.1] at h2
            exact UpTo_trans (UpTo_of HR.out.symm) h2
          · rw [HF.out.2]; exact UpTo.refl _, H3.out.1⟩
        case measure => simp [intOf]; omega
      | false =>
        go_wp2_with fail
        go_roundw
        case rel => exact ⟨at_, i + 1, rfl, by go_num, hat, by omega, fun j hj => by
          rcases Nat.lt_or_eq_of_le (Nat.lt_succ_iff.1 hj) with h1 | rfl
          · exact HU.out j h1
          · rw [HF.out.1, HF.out.2]; exact UpTo_not.2 HR.out.symm, H3.out.1⟩
        case measure => simp [intOf]; omega
    · have di : decide ((i : Int) < (n : Int)) = false := decide_eq_false (by omega)
      have hin : i = n := by omega
      subst hin
      go_wp2_with fail
      go_ret
      exact ⟨⟨at_, rfl, hat, HU.out⟩, HB.out⟩
set_option maxRecDepth 100000 in
set_option maxHeartbeats 4000000 in
theorem sameLog_any (A A' : Option Addr) (c c' : Nat) (l : List Ent) (w : World) (hrd : RdE w A l) (hrd' : RdE w A' l) (hlen : l.length ≤ 9223372036854775807) :
    Calls Try.prog 24 #[.slice A l.length c, .slice A' l.length c'] w fun e w' => e = .returned (.bool true) ∧ Below w.heap.size w w' := by
  obtain ⟨n, hn⟩ : ∃ n, n = l.length := ⟨_, rfl⟩
  have HH := Lib.hid (And.intro hrd (And.intro hrd' hn))
  rw [← hn] at hlen ⊢
  clear hrd hrd' hn
  go_enter Try.func24, Try.ntmps24
  go_wp2_with fail
  go_loopw [5] (fun s5 wr => ∃ k : Nat, s5 = .int .i64 (k : Nat) ∧ k ≤ n ∧ Below w.heap.size w wr) (fun s5 _ => n - (intOf s5).toNat)
  case atStart => exact ⟨0, rfl, by omega, Below.refl _ _⟩
  case round =>
    obtain ⟨k, rfl, hk, hb⟩ := hrel
    have HB := Lib.hid hb
    clear hb
    by_cases hlt : k < n
    · have hkl : k < l.length := by rw [← HH.out.2.2]; exact hlt
      obtain ⟨x, hx⟩ : ∃ x, l[k]? = some x := ⟨_, List.getElem?_eq_getElem hkl⟩
      obtain ⟨b0, off, hE, _, c0, c1⟩ := (HH.out.1.below HB.out).ents hx
      obtain ⟨b1, off1, hE1, _, e0, e1⟩ := (HH.out.2.1.below HB.out).ents hx
      subst hE
      subst hE1
      have d1 : decide ((k : Int) < (n : Int)) = true := decide_eq_true (by omega)
      have k0 : (0 : Int) ≤ (k : Int) := by omega
      have kn : (k : Int) < (n : Int) := by omega
      obtain ⟨t, d⟩ := x
      dsimp only at c0 c1 e0 e1
      clear hx hkl
      go_wp2_with fail
      go_quiet (fail)
      go_wp2_with fail
      go_roundw
      case rel => exact ⟨k + 1, by go_num, by omega, below_drewN HB.out _⟩
      case measure => simp [intOf]; omega
    · have d1 : decide ((k : Int) < (n : Int)) = false := decide_eq_false (by omega)
      go_wp2_with fail
      go_ret
      exact ⟨rfl, HB.out⟩
end
section

section
variable {w w' : World} {B gN : Nat} {X X' : Nat → Prop} {ps : List (Nat × Sv)} {way : List Mx} {Z : Seen} {v : Nv}
theorem NetM.c13 (h : NetM w B gN X ps way Z v) : w.cell? ⟨gN, 13, none⟩ = some (.int .i64 (Z.bud : Nat)) := by rw [h.top.cell, List.getElem?_toArray, netCells_hi v _ _ h.tl 3]; rfl
theorem NetM.setBud (h : NetM w B gN X ps way Z v) {k : Nat} : NetM (w.setCell ⟨gN, 13, none⟩ (.int .i64 (k : Nat))) B gN X ps way { Z with bud := k } v ∧ Chg X w (w.setCell ⟨gN, 13, none⟩ (.int .i64 (k : Nat))) := by
  have hc : Chg (fun b => b = gN) w (w.setCell ⟨gN, 13, none⟩ (.int .i64 (k : Nat))) := Chg.setCell (T := fun b => b = gN) (Chg.refl _ _) (p := ⟨gN, 13, none⟩) rfl _
  have hcX : Chg X w (w.setCell ⟨gN, 13, none⟩ (.int .i64 (k : Nat))) := hc.mono (fun b hb => by rw [hb]; exact h.topX)
  have key : ∀ {e : TypeId} {size n : Nat} {u : Value} {xs : List Value}, w.ownsRow 0 e size u n xs → e ≠ 54 → (w.setCell ⟨gN, 13, none⟩ (.int .i64 (k : Nat))).ownsRow 0 e size u n xs := fun {e size n u xs} ho h2 =>
    own_chg ho hc (fun g hg hg2 => own_blk_ne ho h.top h2 (hg.trans (congrArg some hg2)))
  refine ⟨⟨h.tl, fun b hb => ⟨(h.Xw b hb).1, Nat.lt_of_lt_of_le (h.Xw b hb).2 hc.size⟩, ?_, h.topX, key h.l (by decide), h.lX, h.wy.chg hc (fun b cur hb hk hg => h.top.ne_ hk (by decide) hg.symm), fun x hx => ⟨key (h.ent x hx).1 (by decide), (h.ent x hx).2⟩, key h.sure (by decide), h.sureX, key h.ld (by decide), h.ldX, key h.wh (by decide), h.whX, h.srv.chg (hcX.mono (fun b hb => .inl hb)) (fun b hb => .inl hb)⟩, hcX⟩
  have h1 := h.top.set_ 13 (.int .i64 (k : Nat))
  rw [List.setIfInBounds_toArray] at h1
  have e : (netCells v ps.length way.length Z).set 13 (.int .i64 (k : Nat)) = netCells v ps.length way.length { Z with bud := k } := by
    unfold netCells
    rw [List.set_append_right _ _ (by simp), List.set_append_right _ _ (by simp [h.tl])]
    simp only [List.length_cons, List.length_nil, Nat.zero_add, List.length_map, h.tl]
    rfl
  rw [← e]
  exact h1
end
theorem Sys.bud {n d : Nat} {ss : List Sv} {way : List Mg} {Z : Seen} (h : Sys n ss way Z d) (k : Nat) : Sys n ss way { Z with bud := k } d := by
  obtain ⟨G, hI, hS⟩ := h.inv
  exact ⟨h.len, h.n7, ⟨G, hI, ⟨hS.sure, hS.tl, hS.told, hS.ll, hS.lead⟩⟩, h.bd, h.tb⟩
def budOf (gN : Nat) (w : World) : Nat := match w.cell? ⟨gN, 13, none⟩ with
  | some (.int _ z) => z.toNat
  | _ => 0
def Resting (w : World) (B gN n d a : Nat) (T : Int) (fr cg c4 : Prop) (lg : List Ent) (q bu0 : Nat) (Z0 : Seen) (w' : World) : Prop :=
  ∃ X ps way Z v q', Up w' B gN n d X ps way Z v ∧ Jn n a T fr cg c4 lg q' (ps.map (·.2)) (way.map (·.1)) ∧ q' < Z.bud ∧ Z.sure = Z0.sure ∧ Z.leads.length = Z0.leads.length ∧ (q' ≤ q ∧ Z.bud ≤ bu0 ∧ bu0 + q' ≤ Z.bud + q) ∧ Chg (fun b => B ≤ b) w w'
/-- What rest leaves. -/
def Rested (w : World) (B gN n d a : Nat) (T : Int) (fr cg c4 : Prop) (lg : List Ent) (q bu0 : Nat) (Z0 : Seen) (w' : World) : Prop :=
  ∃ X ps Z v q', Up w' B gN n d X ps [] Z v ∧ Jn n a T fr cg c4 lg q' (ps.map (·.2)) [] ∧ Z.sure = Z0.sure ∧ Z.leads.length = Z0.leads.length ∧ (bu0 ≤ Z.bud + q ∧ Z.bud ≤ bu0) ∧ Chg (fun b => B ≤ b) w w'
set_option maxRecDepth 100000 in
set_option maxHeartbeats 16000000 in
theorem rest_any {w : World} {B gN n d a : Nat} {T : Int} {fr cg c4 : Prop} {lg : List Ent} {q bu0 : Nat} {X : Nat → Prop} {ps : List (Nat × Sv)} {way : List Mx} {Z0 : Seen} {v : Nv} (h : Up w B gN n d X ps way Z0 v) (hJ : Jn n a T fr cg c4 lg q (ps.map (·.2)) (way.map (·.1)))
    (hbu : Z0.bud = bu0) (hq : q < bu0) (hb5 : bu0 ≤ 5000) (hd : d ≤ 4000) :
    Calls Try.prog 21 #[.pointer (some ⟨gN, 0, none⟩)] w fun e w' => e = .returned (.tuple #[]) ∧ Rested w B gN n d a T fr cg c4 lg q bu0 Z0 w' := by
  have hn7 := h.s.n7
  have H0 : Hid (Resting w B gN n d a T fr cg c4 lg q bu0 Z0 w) := Lib.hid ⟨X, ps, way, Z0, v, q, h, hJ, by omega, rfl, rfl, ⟨Nat.le_refl _, by omega, by omega⟩, Chg.refl _ _⟩
  clear h hJ hbu
  go_enter Try.func21, Try.ntmps21
  go_wp2_with fail
  go_loopw [2] (fun _ wr => Resting w B gN n d a T fr cg c4 lg q bu0 Z0 wr) (fun _ wr => budOf gN wr)
  case atStart => exact H0.out
  case round =>
    clear H0
    obtain ⟨X, ps, way, Z, v, q', hU, hJ, hq', hs1, hs2, hs3, hch⟩ := hrel
    obtain ⟨bu, hbu⟩ : ∃ z, z = Z.bud := ⟨_, rfl⟩
    have c13 := hU.m.c13
    have HC13 := Lib.hid c13
    rw [← hbu] at c13 HC13 hq' hs3
    have HSQ := Lib.hid (And.intro hs1 (And.intro hs2 hs3))
    have hjl := hJ.len
    rw [List.length_map] at hjl
    cases way with
    | nil =>
      have c1 := hU.m.c1
      rw [List.length_nil] at c1
      have hcon : Rested w B gN n d a T fr cg c4 lg q bu0 Z0 wr := ⟨X, ps, Z, v, q', hU, hJ, hs1, hs2, ⟨by rw [← hbu]; have := hs3.2.2; omega, by rw [← hbu]; exact hs3.2.1⟩, hch⟩
      have HE := Lib.hid hcon
      have dz : decide ((((0 : Nat) : Int)) > 0) = false := by decide
      clear hU hJ hs1 hs2 hs3 hch hcon hbu hjl
      go_wp2_with fail
      go_end0
      exact ⟨rfl, HE.out⟩
    | cons x rest =>
      have dw : decide (((rest.length : Int) + 1) > 0) = true := decide_eq_true (by omega)
      have dw' : decide (0 < rest.length + 1) = true := decide_eq_true (by omega)
      have db : decide ((bu : Int) > 0) = true := decide_eq_true (by omega)
      have db' : decide (0 < bu) = true := decide_eq_true (by omega)
      obtain ⟨k1, hk1⟩ : ∃ k, k = bu - 1 := ⟨_, rfl⟩
      have sb : (bu : Int) - 1 = (k1 : Int) := by omega
      have k5 : k1 ≤ 5000 := by have := hs3.2.1; omega
      have HK : Hid (bu = k1 + 1 ∧ q' < bu) := Lib.hid ⟨by omega, by omega⟩
      clear hk1
      have c1 := hU.m.c1
      rw [List.length_cons] at c1
      have f13 : wr.frozen? ⟨gN, 13, none⟩ = false := hU.m.top.frozen 13
      have h13 := hU.m.setBud (k := k1)
      have HU1 : Hid (Up (wr.setCell ⟨gN, 13, none⟩ (.int .i64 (k1 : Nat))) B gN n d X ps (x :: rest) { Z with bud := k1 } v ∧ Chg (fun b => B ≤ b) w (wr.setCell ⟨gN, 13, none⟩ (.int .i64 (k1 : Nat)))) := Lib.hid ⟨⟨h13.1, hU.s.bud _, hU.o⟩, hch.trans (h13.2.mono (fun b hb => (hU.m.Xw b hb).1))⟩
      have HJ := Lib.hid hJ
      have hrl90 : rest.length ≤ 90000 := by rw [List.length_cons] at hjl; have := hs3.1; omega
      clear hU hJ hs1 hs2 hs3 hch hbu hjl h13
      go_upto_region 2 with fail
      generalize wr.setCell ⟨gN, 13, none⟩ (.int .i64 (k1 : Nat)) = w1 at *
      clear c1 c13 f13 dw dw' db db' sb
      obtain ⟨hU, hch⟩ := HU1.out
      clear HU1
      have hpl := hU.n
      obtain ⟨gw, off, hAw, hcw, hcm, htl⟩ := hU.m.tail
      obtain ⟨gw', off', e1, hcell⟩ := hU.m.wayAt (i := 0) (x := x) rfl
      rw [hAw] at e1
      injection e1 with e1
      injection e1 with e1 e2
      subst e1
      subst e2
      have hmo := hU.o _ List.mem_cons_self
      have hto := hU.s.toAt (List.mem_map_of_mem (f := fun y : Mx => y.1) (List.mem_cons_self (a := x) (l := rest)))
      have hen := hU.m.ent _ List.mem_cons_self
      have HX := Lib.hid (And.intro hmo (And.intro hto (And.intro hto hen)))
      have HUO := Lib.hid hU.o
      obtain ⟨m, E, ec⟩ := x
      have HRG : Hid (w1.rangeAt gw off (xcell (m, E, ec))) := Lib.hid (fun jj u hu => by
        have := hcell jj u hu
        rw [Nat.zero_mul, Nat.add_zero] at this
        exact this)
      have c1 := hU.m.c1
      rw [hAw, List.length_cons] at c1
      have f1 : w1.frozen? ⟨gN, 1, none⟩ = false := hU.m.top.frozen 1
      have HTOP := Lib.hid hU.m.top
      have hcwl : v.cw = v.cw := rfl
      clear hmo hen hcell
      obtain ⟨M, hM⟩ : ∃ z, z = m := ⟨_, rfl⟩
      have HM := Lib.hid hM
      rw [← hM] at HX
      dsimp only at hto
      rw [← hM] at hto
      obtain ⟨i', hi'⟩ : ∃ i' : Nat, M.to = (i' : Int) := ⟨M.to.toNat, by omega⟩
      have hin' : i' < ps.length := by omega
      obtain ⟨p', hp'⟩ : ∃ p, ps[i']? = some p := ⟨_, List.getElem?_eq_getElem hin'⟩
      obtain ⟨g', S'⟩ := p'
      have HGD := Lib.hid (hU.s.good (sv_at hp')).1
      have HF := Lib.hid (handle_fine HGD.out HX.out.1)
      have HJN : Hid (1 ≤ q' ∧ Jn n a T fr cg c4 lg (q' - 1) ((ps.map (·.2)).set i' (S'.handle M).1) (rest.map (·.1) ++ (S'.handle M).2)) := Lib.hid (by
        have h1 := HJ.out
        have h2 := hU.s
        rw [List.map_cons, show (m, E, ec).1 = M from hM.symm] at h1 h2
        exact h1.step h2 hd hi' (sv_at hp'))
      have HSY : Hid (Sys n ((ps.map (·.2)).set i' (S'.handle M).1) (rest.map (·.1) ++ (S'.handle M).2) { Z with bud := k1 } d) := Lib.hid ((hU.s.handle (sv_at hp') (m := M) (by rw [HM.out]; exact List.mem_map_of_mem List.mem_cons_self)).less (way' := rest.map (·.1) ++ (S'.handle M).2) (fun y hy => by
        rcases List.mem_append.1 hy with hy | hy
        · exact List.mem_append_left _ (List.mem_cons_of_mem _ hy)
        · exact List.mem_append_right _ hy))
      clear hM hto hin' HJ
      obtain ⟨mk, frm, dst, term, index, logTerm, ents, commit, mok⟩ := m
      dsimp only [xcell, mcell] at HRG
      obtain ⟨ne, hne⟩ : ∃ z, z = ents.length := ⟨_, rfl⟩
      have HNE := Lib.hid hne
      rw [← hne] at HRG
      clear hne
      have HB0 : Hid (Blk (w1.alloc (.cells #[.int .u8 0, .int .i64 0, .int .i64 0, .int .i64 0, .int .i64 0, .int .i64 0, .slice none 0 0, .int .i64 0, .bool false] 34)) w1.heap.size 34 #[.int .u8 0, .int .i64 0, .int .i64 0, .int .i64 0, .int .i64 0, .int .i64 0, .slice none 0 0, .int .i64 0, .bool false]) := Lib.hid (Blk.new w1 _ _)
      have HL4 : Hid (Below w1.heap.size w1 (w1.alloc (.cells #[.int .u8 (mk : Nat), .int .i64 frm, .int .i64 dst, .int .i64 term, .int .i64 index, .int .i64 logTerm, .slice E ne ec, .int .i64 commit, .bool mok] 34)) ∧ Blk (w1.alloc (.cells #[.int .u8 (mk : Nat), .int .i64 frm, .int .i64 dst, .int .i64 term, .int .i64 index, .int .i64 logTerm, .slice E ne ec, .int .i64 commit, .bool mok] 34)) w1.heap.size 34 #[.int .u8 (mk : Nat), .int .i64 frm, .int .i64 dst, .int .i64 term, .int .i64 index, .int .i64 logTerm, .slice E ne ec, .int .i64 commit, .bool mok] ∧ Blk (w1.alloc (.cells #[.int .u8 (mk : Nat), .int .i64 frm, .int .i64 dst, .int .i64 term, .int .i64 index, .int .i64 logTerm, .slice E ne ec, .int .i64 commit, .bool mok] 34)) gN 54 (netCells v ps.length (rest.length + 1) { Z with bud := k1 }).toArray) := Lib.hid ⟨(Below.refl _ _).alloc (Nat.le_refl _) _, Blk.new _ _ _, hU.m.top.below ((Below.refl _ _).alloc (Nat.le_refl _) _) hU.m.top.lt⟩
      have HNX := Lib.hid hU.m.Xw
      obtain ⟨gw2, off2, e3, _, _, htl2⟩ := (hU.m.below HL4.out.1).tail
      rw [hAw] at e3
      injection e3 with e3
      injection e3 with e3 e4
      subst e3
      subst e4
      have HTL := Lib.hid htl2
      clear htl2 hAw
      have HCH := Lib.hid hch
      clear hU hch htl
      obtain ⟨rl, hrl⟩ : ∃ z, z = rest.length := ⟨_, rfl⟩
      have HLR := Lib.hid (And.intro hrl hrl90)
      rw [← hrl] at c1 hcw
      have i1 : (0 : Int) < (rl : Int) + 1 := by omega
      have i2 : (1 : Int) ≤ (rl : Int) + 1 := by omega
      clear hrl hrl90
      go_upto_region 3 with (first | (refine wpList_load_mid rfl 34 (.tmp 28) rfl gw off rfl [.int .u8 (mk : Nat), .int .i64 frm, .int .i64 dst, .int .i64 term, .int .i64 index, .int .i64 logTerm, .slice E ne ec, .int .i64 commit, .bool mok] (.struct _) HRG.out Try.underlying34 rfl (by kernel_rfl) ?_) | (refine wpList_store_row rfl 34 (.tmp 2) (.tmp 29) rfl w1.heap.size #[.int .u8 (mk : Nat), .int .i64 frm, .int .i64 dst, .int .i64 term, .int .i64 index, .int .i64 logTerm, .slice E ne ec, .int .i64 commit, .bool mok] rfl rfl 34 #[.int .u8 0, .int .i64 0, .int .i64 0, .int .i64 0, .int .i64 0, .int .i64 0, .slice none 0 0, .int .i64 0, .bool false] HB0.out (by kernel_rfl) rfl (by kernel_rfl) ?_; rw [World.setRow_alloc_new]) | fail)
      have d1 : (w1.alloc (.cells #[.int .u8 (mk : Nat), .int .i64 frm, .int .i64 dst, .int .i64 term, .int .i64 index, .int .i64 logTerm, .slice E ne ec, .int .i64 commit, .bool mok] 34)).cell? ⟨gN, 1, none⟩ = some (.slice (some ⟨gw, off, none⟩) (rl + 1) v.cw) := (HL4.out.2.2.cell 1).trans ((HTOP.out.cell 1).symm.trans c1)
      have d2 : (w1.alloc (.cells #[.int .u8 (mk : Nat), .int .i64 frm, .int .i64 dst, .int .i64 term, .int .i64 index, .int .i64 logTerm, .slice E ne ec, .int .i64 commit, .bool mok] 34)).frozen? ⟨gN, 1, none⟩ = false := HL4.out.2.2.frozen 1
      generalize hb3 : w1.heap.size = b3 at *
      generalize w1.alloc (.cells #[.int .u8 (mk : Nat), .int .i64 frm, .int .i64 dst, .int .i64 term, .int .i64 index, .int .i64 logTerm, .slice E ne ec, .int .i64 commit, .bool mok] 34) = w4 at *
      clear c1 f1 HB0 HRG
      have f1 := d2
      clear d2
      obtain ⟨cw, hcw0⟩ : ∃ z, z = v.cw := ⟨_, rfl⟩
      rw [← hcw0] at d1 hcw hcm HTL
      clear hcw0 hcwl
      by_cases hcc : cw = 1
      · have hrl : rl = 0 := by omega
        subst hcc
        subst hrl
        have H5 : Hid (NetM (w4.setCell ⟨gN, 1, none⟩ (.slice (some ⟨gw, off, none⟩) 0 0)) B gN X ps rest { Z with bud := k1 } { v with Aw := some ⟨gw, off, none⟩, cw := 1 - 1 } ∧ Chg (fun b => B ≤ b) w (w4.setCell ⟨gN, 1, none⟩ (.slice (some ⟨gw, off, none⟩) 0 0)) ∧ Blk (w4.setCell ⟨gN, 1, none⟩ (.slice (some ⟨gw, off, none⟩) 0 0)) b3 34 #[.int .u8 (mk : Nat), .int .i64 frm, .int .i64 dst, .int .i64 term, .int .i64 index, .int .i64 logTerm, .slice E ne ec, .int .i64 commit, .bool mok] ∧ (w4.setCell ⟨gN, 1, none⟩ (.slice (some ⟨gw, off, none⟩) 0 0)).ownsRow 0 39 2 (.slice E M.ents.length ec) M.ents.length (rowOf ecell M.ents) ∧ ∀ b, (Value.slice E M.ents.length ec).ownBlock = some b → X b) := Lib.hid (by
          obtain ⟨hN5, hc5⟩ := HTL.out (some ⟨gw, off, none⟩) (if_pos rfl).symm
          rw [← HLR.out.1] at hN5 hc5
          exact ⟨hN5, HCH.out.trans (((Chg.of_below (w := w1) (w' := w4) (by rw [hb3]; exact HL4.out.1)).trans (hc5.mono (fun b hb => (HNX.out b hb).1)))), HL4.out.2.1.chg hc5 (fun hb => absurd (HNX.out _ hb).2 (Nat.lt_irrefl _)), by
            have h0 := own_below (w' := w4) HX.out.2.2.2.1 (by rw [hb3]; exact HL4.out.1)
            exact own_chg h0 (Chg.setCell (T := fun b => b = gN) (Chg.refl _ _) (p := ⟨gN, 1, none⟩) rfl _) (fun g hg hg2 => own_blk_ne h0 HL4.out.2.2 (by decide) (hg.trans (congrArg some hg2))), HX.out.2.2.2.2⟩)
        go_upto_region 4 with fail
        generalize w4.setCell ⟨gN, 1, none⟩ (.slice (some ⟨gw, off, none⟩) 0 0) = w5 at *
        clear d1 f1
        have HCO := Lib.hid (come_any H5.out.1 hp' HGD.out HX.out.1 hi' H5.out.2.2.2.1 H5.out.2.2.2.2 (by have := HLR.out; omega) (by omega) HF.out.len)
        clear hi' hp'
        generalize S'.handle M = hh at *
        rw [HM.out] at HCO
        dsimp only [mcell] at HCO
        rw [← HNE.out] at HCO
        go_wp2_with (first | (refine wpList_load_row rfl 34 (.tmp 2) rfl b3 rfl 34 #[.int .u8 (mk : Nat), .int .i64 frm, .int .i64 dst, .int .i64 term, .int .i64 index, .int .i64 logTerm, .slice E ne ec, .int .i64 commit, .bool mok] (0, 0) _ H5.out.2.2.1 Try.underlying34 rfl (by kernel_rfl) ?_) | fail)
        refine HCO.out.mono ?_
        rintro e w6 ⟨rfl, X6, zs, v6, hN6, hz6, hc6⟩
        have H6 := Lib.hid (And.intro hN6 (And.intro hz6 hc6))
        clear hN6 hz6 hc6
        go_wp2_with fail
        go_roundw
        case rel => exact ⟨X6, _, _, _, v6, q' - 1, ⟨H6.out.1, by rw [sv_set, List.map_append, H6.out.2.1]; exact HSY.out, fun y hy => by
            rcases List.mem_append.1 hy with hy | hy
            · exact HUO.out y (List.mem_cons_of_mem _ hy)
            · exact HF.out.ok y.1 (by rw [← H6.out.2.1]; exact List.mem_map_of_mem hy)⟩, by rw [sv_set, List.map_append, H6.out.2.1]; exact HJN.out.2, by show q' - 1 < k1; have := HJN.out.1; have := HK.out.1; have := HK.out.2; omega, HSQ.out.1, HSQ.out.2.1, ⟨by have := HSQ.out.2.2.1; omega, by show k1 ≤ bu0; have := HSQ.out.2.2.2.1; have := HK.out.1; omega, by show bu0 + (q' - 1) ≤ k1 + q; have := HSQ.out.2.2.2.2; have := HJN.out.1; have := HK.out.1; have := HK.out.2; omega⟩, H5.out.2.1.trans H6.out.2.2⟩
        case measure =>
          have e6 := H6.out.1.c13
          have e0 := HC13.out
          unfold budOf
          rw [e0, e6]
          show ((k1 : Nat) : Int).toNat < ((bu : Nat) : Int).toNat
          have := HK.out
          omega
      · have hcc2 : (1 : Int) ≤ (cw : Int) := by omega
        have H5 : Hid (NetM (w4.setCell ⟨gN, 1, none⟩ (.slice (some ⟨gw, off + 9, none⟩) rl (cw - 1))) B gN X ps rest { Z with bud := k1 } { v with Aw := some ⟨gw, off + 9, none⟩, cw := cw - 1 } ∧ Chg (fun b => B ≤ b) w (w4.setCell ⟨gN, 1, none⟩ (.slice (some ⟨gw, off + 9, none⟩) rl (cw - 1))) ∧ Blk (w4.setCell ⟨gN, 1, none⟩ (.slice (some ⟨gw, off + 9, none⟩) rl (cw - 1))) b3 34 #[.int .u8 (mk : Nat), .int .i64 frm, .int .i64 dst, .int .i64 term, .int .i64 index, .int .i64 logTerm, .slice E ne ec, .int .i64 commit, .bool mok] ∧ (w4.setCell ⟨gN, 1, none⟩ (.slice (some ⟨gw, off + 9, none⟩) rl (cw - 1))).ownsRow 0 39 2 (.slice E M.ents.length ec) M.ents.length (rowOf ecell M.ents) ∧ ∀ b, (Value.slice E M.ents.length ec).ownBlock = some b → X b) := Lib.hid (by
          obtain ⟨hN5, hc5⟩ := HTL.out (some ⟨gw, off + 9, none⟩) (if_neg hcc).symm
          rw [← HLR.out.1] at hN5 hc5
          exact ⟨hN5, HCH.out.trans (((Chg.of_below (w := w1) (w' := w4) (by rw [hb3]; exact HL4.out.1)).trans (hc5.mono (fun b hb => (HNX.out b hb).1)))), HL4.out.2.1.chg hc5 (fun hb => absurd (HNX.out _ hb).2 (Nat.lt_irrefl _)), by
            have h0 := own_below (w' := w4) HX.out.2.2.2.1 (by rw [hb3]; exact HL4.out.1)
            exact own_chg h0 (Chg.setCell (T := fun b => b = gN) (Chg.refl _ _) (p := ⟨gN, 1, none⟩) rfl _) (fun g hg hg2 => own_blk_ne h0 HL4.out.2.2 (by decide) (hg.trans (congrArg some hg2))), HX.out.2.2.2.2⟩)
        go_upto_region 4 with fail
        generalize w4.setCell ⟨gN, 1, none⟩ (.slice (some ⟨gw, off + 9, none⟩) rl (cw - 1)) = w5 at *
        clear d1 f1
        have HCO := Lib.hid (come_any H5.out.1 hp' HGD.out HX.out.1 hi' H5.out.2.2.2.1 H5.out.2.2.2.2 (by have := HLR.out; omega) (by omega) HF.out.len)
        clear hi' hp'
        generalize S'.handle M = hh at *
        rw [HM.out] at HCO
        dsimp only [mcell] at HCO
        rw [← HNE.out] at HCO
        go_wp2_with (first | (refine wpList_load_row rfl 34 (.tmp 2) rfl b3 rfl 34 #[.int .u8 (mk : Nat), .int .i64 frm, .int .i64 dst, .int .i64 term, .int .i64 index, .int .i64 logTerm, .slice E ne ec, .int .i64 commit, .bool mok] (0, 0) _ H5.out.2.2.1 Try.underlying34 rfl (by kernel_rfl) ?_) | fail)
        refine HCO.out.mono ?_
        rintro e w6 ⟨rfl, X6, zs, v6, hN6, hz6, hc6⟩
        have H6 := Lib.hid (And.intro hN6 (And.intro hz6 hc6))
        clear hN6 hz6 hc6
        go_wp2_with fail
        go_roundw
        case rel => exact ⟨X6, _, _, _, v6, q' - 1, ⟨H6.out.1, by rw [sv_set, List.map_append, H6.out.2.1]; exact HSY.out, fun y hy => by
            rcases List.mem_append.1 hy with hy | hy
            · exact HUO.out y (List.mem_cons_of_mem _ hy)
            · exact HF.out.ok y.1 (by rw [← H6.out.2.1]; exact List.mem_map_of_mem hy)⟩, by rw [sv_set, List.map_append, H6.out.2.1]; exact HJN.out.2, by show q' - 1 < k1; have := HJN.out.1; have := HK.out.1; have := HK.out.2; omega, HSQ.out.1, HSQ.out.2.1, ⟨by have := HSQ.out.2.2.1; omega, by show k1 ≤ bu0; have := HSQ.out.2.2.2.1; have := HK.out.1; omega, by show bu0 + (q' - 1) ≤ k1 + q; have := HSQ.out.2.2.2.2; have := HJN.out.1; have := HK.out.1; have := HK.out.2; omega⟩, H5.out.2.1.trans H6.out.2.2⟩
        case measure =>
          have e6 := H6.out.1.c13
          have e0 := HC13.out
          unfold budOf
          rw [e0, e6]
          show ((k1 : Nat) : Int).toNat < ((bu : Nat) : Int).toNat
          have := HK.out
          omega
end
section

theorem NetM.leads {w : World} {B gN : Nat} {X : Nat → Prop} {ps : List (Nat × Sv)} {way : List Mx} {Z : Seen} {v : Nv} (h : NetM w B gN X ps way Z v) {i g : Nat} {S : Sv} (hi : ps[i]? = some (g, S)) (hg : S.Good) :
    Calls Try.prog 12 #[.pointer (some ⟨g, 0, none⟩)] w (fun e w' => e = .returned (.int .i64 S.leader) ∧ w' = w) := by
  obtain ⟨A, c, hm⟩ := h.srv.get hi
  exact Leader_any w g S.n S.leader hm.c1 (by have := hg.id; omega) hm.c6
/-- A server ticks. -/
theorem ticked {w : World} {gN n d : Nat} {X : Nat → Prop} {ps : List (Nat × Sv)} {Z : Seen} {v : Nv} (h : Up w gN gN n d X ps [] Z v) {a g : Nat} {S : Sv} (ha : ps[a]? = some (g, S)) :
    Calls Try.prog 9 #[.pointer (some ⟨g, 0, none⟩)] w fun e w' => ∃ D c X', e = .returned (.slice D S.tick.2.length c) ∧ NetM w' gN gN X' (ps.set a (g, S.tick.1)) [] Z v ∧ MsX w' X' D S.tick.2.length c S.tick.2 ∧ Chg (fun b => gN ≤ b) w w' := by
  refine (h.m.srv.outsB h.m.Xw' ha 9 #[.pointer (some ⟨g, 0, none⟩)] S.tick.1 S.tick.2 (fun A c hs => tick_any S g A c w hs (h.s.good (sv_at ha)).1.toOk)).mono ?_
  intro e w' hd
  exact h.m.did ha hd
/-- What is on its way is told by its messages. -/
theorem Up.put {w' : World} {gN n e : Nat} {X' : Nat → Prop} {ps' : List (Nat × Sv)} {zs : List Mx} {Z : Seen} {v' : Nv} {ms : List Mg} (hz : zs.map (·.1) = ms) (hN : NetM w' gN gN X' ps' ([] ++ zs) Z v') (hs : Sys n (ps'.map (·.2)) ms Z e) (hf : ∀ m ∈ ms, MgOk m) : Up w' gN gN n e X' ps' zs Z v' :=
  ⟨hN, by rw [hz]; exact hs, fun x hx => hf x.1 (by rw [← hz]; exact List.mem_map_of_mem hx)⟩
theorem bound_le {d : Nat} (h : d ≤ 152) : bound d ≤ 2296 := by unfold bound; omega
def Turned (w : World) (gN n a q i : Nat) (w' : World) : Prop :=
  ∃ X ps Z v, Up w' gN gN n (q + i) X ps [] Z v ∧ Newest n a (ps.map (·.2)) ∧ (1 ≤ i → Tops n a (ps.map (·.2))) ∧ (2 ≤ i → Led n a (ps.map (·.2))) ∧ Z.sure.length ≤ q ∧ Z.leads.length ≤ 7 * q ∧ 5000 ≤ Z.bud + 2296 * i ∧ Z.bud ≤ 5000 ∧ Chg (fun b => gN ≤ b) w w'
/-- A turn of the first two is gone through. -/
theorem turn_rest {w0 w : World} {gN n a q i : Nat} {X : Nat → Prop} {ps ps5 : List (Nat × Sv)} {way : List Mx} {Z : Seen} {v : Nv} {d : Nat} {S : Sv} (hi : i < 2) (hq : q ≤ 150) (hS : Sys n (ps.map (·.2)) [] Z d) (hd : d = q + i) (hN : Newest n a (ps.map (·.2))) (ha : (ps.map (·.2))[a]? = some S) (hT : 1 ≤ i → Tops n a (ps.map (·.2)))
    (hU : Up w gN gN n (q + (i + 1)) X ps5 way Z v) (hp : ps5.map (·.2) = (ps.map (·.2)).set a S.tick.1) (hw : way.map (·.1) = S.tick.2) (h1 : Z.sure.length ≤ q) (h2 : Z.leads.length ≤ 7 * q) (h3 : 5000 ≤ Z.bud + 2296 * i) (h4 : Z.bud ≤ 5000) (hc : Chg (fun b => gN ≤ b) w0 w) :
    Calls Try.prog 21 #[.pointer (some ⟨gN, 0, none⟩)] w fun e w' => e = .returned (.tuple #[]) ∧ Turned w0 gN n a q (i + 1) w' := by
  obtain ⟨T, hJ⟩ := turn hS (by omega) hN ha (fr := 1 ≤ i) hT
  rw [← hp, ← hw] at hJ
  have hb := bound_le (d := d) (by omega)
  refine (rest_any hU hJ rfl (by omega) h4 (by omega)).mono ?_
  rintro e w' ⟨rfl, X', ps', Z', v', q', hU', hJ', e1, e2, e3, hc'⟩
  obtain ⟨r1, r2, r3⟩ := hJ'.rests hU'.s
  exact ⟨rfl, X', ps', Z', v', hU', r1, fun _ => r2, fun h => r3 (by omega), by rw [e1]; exact h1, by rw [e2]; exact h2, by omega, by omega, hc.trans hc'⟩
def Ph (n a : Nat) (lg : List Ent) (i : Nat) (ss : List Sv) : Prop :=
  (i = 0 ∧ ∃ T, Jn n a T True True False lg 28 ss (fn ss a).outs) ∨ (i = 1 ∧ ∃ T, Jn n a T True True True lg 14 ss (fn ss a).outs) ∨ (i = 2 ∧ ∃ T q, Jn n a T True True True lg q ss [])
def Turned2 (w : World) (gN n a q : Nat) (lg : List Ent) (i : Nat) (w' : World) : Prop :=
  ∃ X ps Z v, Up w' gN gN n (q + 3 + i) X ps [] Z v ∧ Ph n a lg i (ps.map (·.2)) ∧ (a < n ∧ (fn (ps.map (·.2)) a).role = 2) ∧ Z.sure.length ≤ q + 3 ∧ Z.leads.length ≤ 7 * q + 7 ∧ 5000 ≤ Z.bud + 4592 + 28 * i ∧ Z.bud ≤ 5000 ∧ Chg (fun b => gN ≤ b) w w'
/-- A turn of the last two is gone through. -/
theorem turn_rest2 {w0 w : World} {gN n a q i : Nat} {lg : List Ent} {X : Nat → Prop} {ps5 : List (Nat × Sv)} {way : List Mx} {Z : Seen} {v : Nv} {S : Sv} (hi : i < 2) (hq : q ≤ 150) (hP : Ph n a lg i (ps5.map (·.2))) (ha : (ps5.map (·.2))[a]? = some S)
    (hU : Up w gN gN n (q + 3 + (i + 1)) X ps5 way Z v) (hw : way.map (·.1) = S.outs) (h1 : Z.sure.length ≤ q + 3) (h2 : Z.leads.length ≤ 7 * q + 7) (h3 : 5000 ≤ Z.bud + 4592 + 28 * i) (h4 : Z.bud ≤ 5000) (hc : Chg (fun b => gN ≤ b) w0 w) :
    Calls Try.prog 21 #[.pointer (some ⟨gN, 0, none⟩)] w fun e w' => e = .returned (.tuple #[]) ∧ Turned2 w0 gN n a q lg (i + 1) w' := by
  have e0 := fn_get ha
  rcases hP with ⟨hi0, T, hJ⟩ | ⟨hi0, T, hJ⟩ | ⟨hi0, _⟩
  · rw [e0, ← hw] at hJ
    refine (rest_any hU hJ rfl (by omega) h4 (by omega)).mono ?_
    rintro e w' ⟨rfl, X', ps', Z', v', q', hU', hJ', e1, e2, e3, hc'⟩
    have hlt : a < (ps'.map (·.2)).length := by rw [hU'.s.len]; exact hJ'.an
    obtain ⟨x, hx⟩ : ∃ x, (ps'.map (·.2))[a]? = some x := ⟨_, List.getElem?_eq_getElem hlt⟩
    obtain ⟨_, _, hL, hr, T', hJ2⟩ := turn4 hJ' hU'.s hx
    exact ⟨rfl, X', ps', Z', v', hU', .inr (.inl ⟨by omega, T', by rw [fn_get hx]; exact hJ2⟩), ⟨hJ'.an, by rw [fn_get hx]; exact hr⟩, by rw [e1]; exact h1, by rw [e2]; exact h2, by omega, by omega, hc.trans hc'⟩
  · rw [e0, ← hw] at hJ
    refine (rest_any hU hJ rfl (by omega) h4 (by omega)).mono ?_
    rintro e w' ⟨rfl, X', ps', Z', v', q', hU', hJ', e1, e2, e3, hc'⟩
    exact ⟨rfl, X', ps', Z', v', hU', .inr (.inr ⟨by omega, T, q', hJ'⟩), ⟨hJ'.an, (hJ'.f trivial).2.r2⟩, by rw [e1]; exact h1, by rw [e2]; exact h2, by omega, by omega, hc.trans hc'⟩
  · omega
theorem tick2 {S : Sv} (h : S.role = 2) : S.tick = (S, S.outs) := by unfold Sv.tick; rw [if_pos h]
theorem set_same {ps : List (Nat × Sv)} {a : Nat} {p : Nat × Sv} (h : ps[a]? = some p) : ps.set a p = ps := by
  apply List.ext_getElem?
  intro j
  rw [List.getElem?_set]
  split
  · rename_i e
    subst e
    rw [h, if_pos (List.getElem?_eq_some_iff.1 h).1]
  · rfl
/-- A leader proposes. -/
theorem proposed {w : World} {gN n d : Nat} {X : Nat → Prop} {ps : List (Nat × Sv)} {Z : Seen} {v : Nv} (h : Up w gN gN n d X ps [] Z v) (hd : d ≤ 4000) {a g : Nat} {S : Sv} (ha : ps[a]? = some (g, S)) (hL : Led n a (ps.map (·.2))) {data : ByteArray} (hs : data.size ≤ 65536) :
    Calls Try.prog 14 #[.pointer (some ⟨g, 0, none⟩), .string data] w fun e w' => e = .returned (.tuple #[.int .i64 ((S.log.length + 1 : Nat) : Int), .int .i64 0]) ∧ ∃ X', Up w' gN gN n (d + 1) X' (ps.set a (g, (S.put data).agree)) [] Z v ∧ Chg (fun b => gN ≤ b) w w' := by
  have hp := hL.put h.s hd (sv_at ha) hs
  have hg := (h.s.good (sv_at ha)).1
  have hsy := h.s.propose (sv_at ha) data
  refine (h.m.srv.propose h.m.Xw' ha hg data).mono ?_
  rintro e w' ⟨rfl, hs', hc⟩
  rw [hp] at hs' hsy ⊢
  have hN := h.m.srvs (X := X) (B1 := w'.heap.size) hc hc.size (hs'.less (fun b hb => .inl (hb.elim id (fun h => by omega)))) (set_fst ha)
  exact ⟨rfl, _, ⟨hN, by rw [sv_set]; exact hsy, h.o⟩, hc.mono (fun b hb => Nat.le_of_not_lt (fun h => hb (.inr h)))⟩
end
end Go.Proofs.Ytjodglepaeomiaa
