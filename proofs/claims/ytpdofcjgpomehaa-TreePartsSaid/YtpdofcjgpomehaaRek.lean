/- Contracts of the document's End and Kids. -/
import Derived.Test.YtpdofcjgpomehaaBck
namespace Go.Proofs.Ytpdofcjgpomehaa
open Go.RowKit

set_option maxHeartbeats 4000000 in
theorem refEnd_any (A : Option Addr) (c : Nat) (l : List Tw) (hlen : l.length ≤ 100000) : ∀ (N : Nat) (T : Tr) (at_ : Nat) (r : List Tw) (w : World), T.flat.length ≤ N → T.cok → l.drop at_ = T.flat ++ r → RdW w A l →
    Calls Try.prog 25 #[.slice A l.length c, .int .i64 (at_ : Nat)] w fun e w' => e = .returned (.int .i64 ((at_ + T.flat.length : Nat) : Int)) ∧ w' = w := by
  intro N
  induction N with
  | zero => intro T at_ r w h; have := flat_pos T; omega
  | succ N ih =>
    intro T at_ r w hN hT hl hrd
    obtain ⟨x, ks⟩ := T
    rw [Tr.cok] at hT
    rw [Tr.flat, List.cons_append] at hl
    rw [Tr.flat, List.length_cons] at hN
    have h1 := drop_head hl
    obtain ⟨n, hn⟩ : ∃ n, n = l.length := ⟨_, rfl⟩
    have hatn : at_ < n := by rw [hn]; exact (List.getElem?_eq_some_iff.1 h1.1).1
    obtain ⟨b, off, rfl, hbl, hat⟩ : ∃ b off, A = some ⟨b, off, none⟩ ∧ b < w.heap.size ∧ ∀ k x, l[k]? = some x → TwAt w b (off + k * 4) x := hrd.resolve_left (fun h => by rw [h] at h1; simp at h1)
    obtain ⟨c0, c1, c2, c3⟩ := hat at_ x h1.1
    rw [hT.1] at c1
    obtain ⟨z, hz⟩ : ∃ z, z = at_ + (Tr.node x ks).flat.length := ⟨_, rfl⟩
    rw [← hz]
    rw [Tr.flat, List.length_cons] at hz
    have hfl : at_ + 1 + (flats ks).length ≤ n := by
      have h2 := drop_len h1.2
      rw [List.length_append] at h2
      omega
    have HX := Lib.hid (And.intro h1.2 (And.intro hT.2 (And.intro hz hfl)))
    have HIH := Lib.hid ih
    have HR := Lib.hid hrd
    have HN := Lib.hid (And.intro hn hN)
    obtain ⟨q, hq⟩ : ∃ q, q = ks.length := ⟨_, rfl⟩
    rw [← hq] at c1
    have HQ := Lib.hid hq
    have hq9 : q ≤ 100000 := by have := len_flats ks; omega
    rw [← hn] at hlen ⊢
    have a0 : (0 : Int) ≤ (at_ : Int) := by omega
    have a1 : (at_ : Int) < (n : Int) := by omega
    clear hN hT hl hrd h1 hn hbl hat hz ih hfl hq
    go_enter Try.func25, Try.ntmps25
    go_wp2_with fail
    go_loopw [1, 6] (fun s1 s6 wr => wr = w ∧ ∃ i j : Nat, s6 = .int .i64 (i : Nat) ∧ s1 = .int .i64 (j : Nat) ∧ i ≤ q ∧ l.drop j = flats (ks.drop i) ++ r ∧ j + (flats (ks.drop i)).length = at_ + 1 + (flats ks).length) (fun _ s6 _ => q - (intOf s6).toNat)
    case atStart => exact ⟨rfl, 0, at_ + 1, rfl, by go_num, by omega, HX.out.1, rfl⟩
    case round =>
      obtain ⟨rfl, i, j, rfl, rfl, hi, hdr, hjl⟩ := hrel
      by_cases hlt : i < q
      · have hd1 : decide ((i : Int) < (q : Int)) = true := decide_eq_true (by omega)
        have hik : i < ks.length := by rw [← HQ.out]; exact hlt
        have hkd : ks.drop i = ks[i] :: ks.drop (i + 1) := List.drop_eq_getElem_cons hik
        rw [hkd, flats] at hdr hjl
        rw [List.append_assoc] at hdr
        rw [List.length_append] at hjl
        have hck : (ks[i]).cok := by
          have h := HX.out.2.1
          rw [← List.take_append_drop i ks, coks_append, hkd, coks] at h
          exact h.2.1
        have HC := Lib.hid (HIH.out ks[i] j (flats (ks.drop (i + 1)) ++ r) wr (by have h2 := flat_le (List.getElem_mem hik); have := HN.out.2; omega) hck hdr HR.out)
        rw [← HN.out.1] at HC
        have HJ := Lib.hid (And.intro (drop_app hdr) hjl)
        have hjb : j + (ks[i]).flat.length ≤ 100000 := by have := HX.out.2.2.2; omega
        generalize (ks[i]).flat.length = kl at *
        clear hkd hck hdr hjl hik
        go_wp2_with fail
        refine HC.out.mono ?_
        rintro e w2 ⟨rfl, hw2⟩
        rw [hw2]
        clear hw2 w2
        go_wp2_with fail
        go_roundw
        case rel => exact ⟨trivial, i + 1, j + kl, by go_num, rfl, by omega, HJ.out.1, by have := HJ.out.2; omega⟩
        case measure => simp [intOf]; omega
      · have hd1 : decide ((i : Int) < (q : Int)) = false := decide_eq_false (by omega)
        have hjz : j = z := by
          rw [List.drop_of_length_le (by rw [← HQ.out]; omega)] at hjl
          have := HX.out.2.2.1
          simp [flats] at hjl
          omega
        subst hjz
        clear hdr hjl
        go_wp2_with fail
        go_ret
        exact ⟨rfl, rfl⟩
/-- Where parts begin. -/
def posL (p : Nat) : List Tr → List Nat
  | [] => []
  | k :: ks => p :: posL (p + k.flat.length) ks
theorem posL_snoc : ∀ (ks : List Tr) (p : Nat) (k : Tr), posL p (ks ++ [k]) = posL p ks ++ [p + (flats ks).length]
  | [], p, k => by simp [posL, flats]
  | k0 :: ks, p, k => by
    rw [List.cons_append, posL, posL, posL_snoc ks, flats, List.length_append, List.cons_append, Nat.add_assoc]
theorem posL_length : ∀ (ks : List Tr) (p : Nat), (posL p ks).length = ks.length
  | [], _ => rfl
  | k :: ks, p => by rw [posL, List.length_cons, List.length_cons, posL_length ks]
set_option maxHeartbeats 4000000 in
theorem refKids_any (x : Tw) (ks : List Tr) (A : Option Addr) (c at_ : Nat) (l r : List Tw) (w : World) (hlen : l.length ≤ 100000) (hT : (Tr.node x ks).cok) (hl : l.drop at_ = (Tr.node x ks).flat ++ r) (hrd : RdW w A l) :
    Calls Try.prog 24 #[.slice A l.length c, .int .i64 (at_ : Nat)] w fun e w' => (∃ A' c', e = .returned (.slice A' ks.length c') ∧ w'.ownsRow w.heap.size 3 1 (.slice A' ks.length c') ks.length (ncells (posL (at_ + 1) ks))) ∧ Below w.heap.size w w' := by
  rw [Tr.cok] at hT
  rw [Tr.flat, List.cons_append] at hl
  have h1 := drop_head hl
  obtain ⟨n, hn⟩ : ∃ n, n = l.length := ⟨_, rfl⟩
  have hatn : at_ < n := by rw [hn]; exact (List.getElem?_eq_some_iff.1 h1.1).1
  obtain ⟨b, off, rfl, hbl, hat⟩ : ∃ b off, A = some ⟨b, off, none⟩ ∧ b < w.heap.size ∧ ∀ k x, l[k]? = some x → TwAt w b (off + k * 4) x := hrd.resolve_left (fun h => by rw [h] at h1; simp at h1)
  have hfl : at_ + 1 + (flats ks).length ≤ n := by
    have h2 := drop_len h1.2
    rw [List.length_append] at h2
    omega
  obtain ⟨q, hq⟩ : ∃ q, q = ks.length := ⟨_, rfl⟩
  have HX := Lib.hid (And.intro h1.2 (And.intro hT.2 hfl))
  have HC1 : Hid (∀ W, Below w.heap.size w W → W.cell? ⟨b, off + at_ * 4 + 1, none⟩ = some (.int .i64 (q : Nat))) := fun W hW => by
    have h := ((hat at_ x h1.1).of_block (hW.block b hbl)).2.1
    rw [hT.1, ← hq] at h
    exact h
  have HR := Lib.hid hrd
  have HN := Lib.hid hn
  have HQ := Lib.hid hq
  have hq9 : q ≤ 100000 := by have := len_flats ks; omega
  rw [← hq]
  rw [← hn] at hlen ⊢
  have a0 : (0 : Int) ≤ (at_ : Int) := by omega
  have a1 : (at_ : Int) < (n : Int) := by omega
  clear hT hl hrd h1 hn hbl hat hfl hq
  go_enter Try.func24, Try.ntmps24
  go_wp2_with fail
  go_loopw [5, 6, 7] (fun s5 s6 s7 wr => ∃ (i j c1 : Nat) (A1 : Option Addr), s5 = .slice A1 i c1 ∧ s7 = .int .i64 (i : Nat) ∧ s6 = .int .i64 (j : Nat) ∧ i ≤ q ∧ j = at_ + 1 + (flats (ks.take i)).length ∧ wr.ownsRow w.heap.size 3 1 (.slice A1 i c1) i (ncells (posL (at_ + 1) (ks.take i))) ∧ Below w.heap.size w wr) (fun _ _ s7 _ => q - (intOf s7).toNat)
  case atStart => exact ⟨0, at_ + 1, 0, none, rfl, rfl, by go_num, by omega, by simp [flats], World.ownsRow_nil _ _ _ _, Below.refl _ w⟩
  case round =>
    obtain ⟨i, j, c1, A1, rfl, rfl, rfl, hi, hj, ho, hb⟩ := hrel
    have HO := Lib.hid (And.intro ho (And.intro hb hj))
    have k1 := HC1.out wr hb
    clear ho hb hj
    by_cases hlt : i < q
    · have hd1 : decide ((i : Int) < (q : Int)) = true := decide_eq_true (by omega)
      have hik : i < ks.length := by rw [← HQ.out]; exact hlt
      have hkd : ks.drop i = ks[i] :: ks.drop (i + 1) := List.drop_eq_getElem_cons hik
      have hsp : flats ks = flats (ks.take i) ++ (ks[i].flat ++ flats (ks.drop (i + 1))) := by
        conv => lhs; rw [← List.take_append_drop i ks, flats_append, hkd, flats]
      have hdr : l.drop j = ks[i].flat ++ (flats (ks.drop (i + 1)) ++ r) := by
        have h := HX.out.1
        rw [hsp, List.append_assoc, List.append_assoc] at h
        rw [HO.out.2.2]
        exact drop_app h
      have hck : (ks[i]).cok := by
        have h := HX.out.2.1
        rw [← List.take_append_drop i ks, coks_append, hkd, coks] at h
        exact h.2.1
      have HC := Lib.hid (fun W (hW : Below w.heap.size w W) => refEnd_any (some ⟨b, off, none⟩) c l (by rw [← HN.out]; exact hlen) (ks[i]).flat.length ks[i] j (flats (ks.drop (i + 1)) ++ r) W (Nat.le_refl _) hck hdr (HR.out.below hW))
      rw [← HN.out] at HC
      have HTK := Lib.hid (show posL (at_ + 1) (ks.take (i + 1)) = posL (at_ + 1) (ks.take i) ++ [j] ∧ (flats (ks.take (i + 1))).length = (flats (ks.take i)).length + (ks[i]).flat.length from by
        rw [List.take_succ_eq_append_getElem hik]
        refine ⟨by rw [posL_snoc, HO.out.2.2], by rw [flats_append, List.length_append, flats, flats, List.append_nil]⟩)
      have hjb : j + (ks[i]).flat.length ≤ 100000 := by
        have h1 := HX.out.2.2
        rw [hsp, List.length_append, List.length_append] at h1
        have := HO.out.2.2
        omega
      generalize (ks[i]).flat.length = kl at *
      clear hkd hsp hdr hck hik
      go_wp2_with (at_builtin; refine wpList_app_nat rfl (.tmp 19) (.tmp 21) rfl w.heap.size wr.heap.size i c1 A1 (posL (at_ + 1) (ks.take i)) j rfl (HO.out.1.alloc _) rfl (heap_alloc_new wr _) (by omega) (by have := HO.out.2.1.size; simp; omega) ?_; intro A2 c2 w3 ho3 hg3; have H3 := Lib.hid (And.intro ho3 ((HO.out.2.1.alloc HO.out.2.1.size _).grown hg3 (by have := HO.out.2.1.size; simp; omega) (fun r hr => (World.ownsRow.lt HO.out.1 r hr).1))); clear ho3 hg3)
      refine (HC.out w3 H3.out.2).mono ?_
      rintro e w4 ⟨rfl, hw4⟩
      rw [hw4]
      clear hw4 w4
      go_wp2_with fail
      go_roundw
      case rel => exact ⟨i + 1, j + kl, c2, A2, rfl, by go_num, rfl, by omega, by rw [HTK.out.2, HO.out.2.2]; omega, by rw [HTK.out.1]; exact H3.out.1, H3.out.2⟩
      case measure => simp [intOf]; omega
    · have hd1 : decide ((i : Int) < (q : Int)) = false := decide_eq_false (by omega)
      have hiq : i = q := by omega
      have HF := Lib.hid (show posL (at_ + 1) (ks.take i) = posL (at_ + 1) ks from by rw [List.take_of_length_le (by rw [← HQ.out]; omega)])
      subst hiq
      go_wp2_with fail
      go_ret
      refine ⟨⟨A1, c1, rfl, ?_⟩, HO.out.2.1⟩
      have h := HO.out.1
      rw [HF.out] at h
      exact h
end Go.Proofs.Ytpdofcjgpomehaa
