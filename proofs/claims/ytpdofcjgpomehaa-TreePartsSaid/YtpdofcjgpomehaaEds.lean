/- Contracts of tree.ends and of the document's Alike (of twigs that are the same). -/
import Derived.Deep.QuietTactic
import Derived.BigQuiet
import Derived.Test.YtpdofcjgpomehaaOps
namespace Go.Proofs.Ytpdofcjgpomehaa
open Go.RowKit

theorem flats_append : ∀ a b : List Tr, flats (a ++ b) = flats a ++ flats b
  | [], b => by simp [flats]
  | k :: a, b => by rw [List.cons_append, flats, flats, flats_append a b, List.append_assoc]
theorem coks_append : ∀ a b : List Tr, coks (a ++ b) ↔ coks a ∧ coks b
  | [], b => by simp [coks]
  | k :: a, b => by rw [List.cons_append, coks, coks, coks_append a b, and_assoc]
set_option maxHeartbeats 2000000 in
theorem ends_any (T : Tr) (A : Option Addr) (c at_ : Nat) (l r : List Tw) (w : World) (hT : T.cok) (hl : l.drop at_ = T.flat ++ r) (hlen : l.length ≤ 100000) (hrd : RdW w A l) :
    Calls Try.prog 22 #[.slice A l.length c, .int .i64 (at_ : Nat)] w fun e w' => e = .returned (.int .i64 ((at_ + T.flat.length : Nat) : Int)) ∧ w' = w := by
  obtain ⟨n, hn⟩ : ∃ n, n = l.length := ⟨_, rfl⟩
  rw [← hn] at hlen ⊢
  obtain ⟨z, hz⟩ : ∃ z, z = at_ + T.flat.length := ⟨_, rfl⟩
  rw [← hz]
  have hatn : at_ < n := by
    have h1 := drop_len hl
    have h2 := flat_pos T
    rw [List.length_append] at h1
    omega
  have hlz : l.length - z = r.length ∧ z ≤ l.length := by
    have h1 := drop_len hl
    rw [List.length_append] at h1
    omega
  have HN := Lib.hid (And.intro hn (And.intro hT (And.intro hl hlz)))
  have HR := Lib.hid hrd
  clear hn hT hl hrd hz hlz
  go_enter Try.func22, Try.ntmps22
  go_wp2_with fail
  go_loopw [1, 5] (fun s1 s5 wr => wr = w ∧ ∃ (j : Nat) (Fs : List Tr), s1 = .int .i64 (j : Nat) ∧ s5 = .int .i64 (Fs.length : Nat) ∧ j ≤ n ∧ coks Fs ∧ l.drop j = flats Fs ++ r) (fun s1 _ _ => n - (intOf s1).toNat)
  case atStart => exact ⟨rfl, at_, [T], rfl, rfl, by omega, by rw [coks]; exact ⟨HN.out.2.1, by simp [coks]⟩, by rw [HN.out.2.2.1]; simp [flats]⟩
  case round =>
    obtain ⟨rfl, j, Fs, rfl, rfl, hj, hck, hdr⟩ := hrel
    cases Fs with
    | nil =>
      have hjz : j = z := by
        have h1 := drop_len hdr
        have h2 := HN.out.2.2.2
        have h3 := HN.out.1
        simp [flats] at h1
        omega
      subst hjz
      have d0 : decide ((0 : Int) < ((([] : List Tr).length : Nat) : Int)) = false := rfl
      clear hck hdr
      go_wp2_with fail
      go_ret
      exact ⟨rfl, rfl⟩
    | cons F Fs =>
      obtain ⟨x, ks⟩ := F
      rw [coks, Tr.cok] at hck
      rw [flats, Tr.flat, List.cons_append, List.cons_append, List.append_assoc] at hdr
      have h1 := drop_head hdr
      have hjn : j < n := by rw [HN.out.1]; exact (List.getElem?_eq_some_iff.1 h1.1).1
      obtain ⟨b, off, rfl, hbl, hat⟩ : ∃ b off, A = some ⟨b, off, none⟩ ∧ b < wr.heap.size ∧ ∀ k x, l[k]? = some x → TwAt wr b (off + k * 4) x := HR.out.resolve_left (fun h => by rw [h] at h1; simp at h1)
      obtain ⟨c0, c1, c2, c3⟩ := hat j x h1.1
      have hkl : ks.length ≤ n ∧ Fs.length ≤ n := by
        have h2 := len_flats ks
        have h3 := len_flats Fs
        have h4 := drop_len h1.2
        rw [List.length_append, List.length_append] at h4
        have := HN.out.1
        omega
      obtain ⟨q, hq⟩ : ∃ q, q = ks.length := ⟨_, rfl⟩
      obtain ⟨fl, hfl⟩ : ∃ q, q = Fs.length := ⟨_, rfl⟩
      rw [hck.1.1, ← hq] at c1
      rw [← hq, ← hfl] at hkl
      rw [List.length_cons, ← hfl]
      have HX : Hid (coks (ks ++ Fs) ∧ l.drop (j + 1) = flats (ks ++ Fs) ++ r ∧ (ks ++ Fs).length = q + fl) := ⟨(coks_append _ _).2 ⟨hck.1.2, hck.2⟩, by rw [h1.2, flats_append, List.append_assoc], by rw [List.length_append, hq, hfl]⟩
      have hj0 : (0 : Int) ≤ (j : Int) := by omega
      have hjn2 : (j : Int) < (n : Int) := by omega
      obtain ⟨hk1, hk2⟩ := hkl
      clear hck hdr h1 hat hbl hq hfl
      go_wp2_with fail
      go_roundw
      case rel => exact ⟨trivial, j + 1, ks ++ Fs, by go_num, by rw [HX.out.2.2]; congr 1; omega, by omega, HX.out.1, HX.out.2.1⟩
      case measure => simp [intOf]; omega
set_option maxHeartbeats 2000000 in
theorem alike_same (A B : Option Addr) (ca cb n : Nat) (l : List Tw) (w : World) (ha : RdW w A l) (hb : RdW w B l) (hl : n = l.length) (hn : n ≤ 1000000) :
    Calls Try.prog 16 #[.slice A n ca, .slice B n cb] w fun e w' => e = .returned (.bool true) ∧ ∃ q, w' = w.drewN q := by
  have HA := Lib.hid ha
  have HB := Lib.hid hb
  have HL := Lib.hid hl
  clear ha hb hl
  go_enter Try.func16, Try.ntmps16
  go_wp2_with fail
  go_loopw [5] (fun s5 wr => ∃ k : Nat, s5 = .int .i64 k ∧ k ≤ n ∧ ∃ q, wr = w.drewN q) (fun s5 _ => n - (intOf s5).toNat)
  case atStart => exact ⟨0, rfl, by omega, 0, rfl⟩
  case round =>
    obtain ⟨k, rfl, hk, hw⟩ := hrel
    by_cases hlt : k < n
    · have hka : k < l.length := by rw [← HL.out]; exact hlt
      obtain ⟨x, hx⟩ : ∃ g, l[k]? = some g := ⟨_, List.getElem?_eq_getElem hka⟩
      obtain ⟨b1, o1, rfl, _, hc1⟩ : ∃ b off, A = some ⟨b, off, none⟩ ∧ b < w.heap.size ∧ ∀ k x, l[k]? = some x → TwAt w b (off + k * 4) x := HA.out.resolve_left (fun h => by rw [h] at hka; exact absurd hka (by simp))
      obtain ⟨b2, o2, rfl, _, hc2⟩ : ∃ b off, B = some ⟨b, off, none⟩ ∧ b < w.heap.size ∧ ∀ k x, l[k]? = some x → TwAt w b (off + k * 4) x := HB.out.resolve_left (fun h => by rw [h] at hka; exact absurd hka (by simp))
      obtain ⟨q, hq⟩ := hw
      have hat1 : TwAt wr b1 (o1 + k * 4) x := by rw [hq]; exact hc1 k x hx
      have hat2 : TwAt wr b2 (o2 + k * 4) x := by rw [hq]; exact hc2 k x hx
      have HQ := Lib.hid hq
      have hkn : (k : Int) < (n : Int) := by omega
      have hk0 : (0 : Int) ≤ (k : Int) := by omega
      have hd1 : decide ((k : Int) < (n : Int)) = true := decide_eq_true hkn
      clear hx hq hc1 hc2 hka
      obtain ⟨op, kids, int, text⟩ := x
      obtain ⟨c0, c1, c2, c3⟩ := hat1
      obtain ⟨d0, d1, d2, d3⟩ := hat2
      dsimp only at c0 c1 c2 c3 d0 d1 d2 d3
      have e1 : (text.toList == text.toList) = true := beq_self_eq_true _
      go_wp2_with fail
      go_quiet (fail)
      go_wp2_with fail
      go_roundw
      case rel => exact ⟨k + 1, by go_num, by omega, q + nq, by rw [HQ.out]; exact World.drewN_drewN w q nq⟩
      case measure => simp [intOf]; omega
    · have hd1 : decide ((k : Int) < (n : Int)) = false := decide_eq_false (by omega)
      obtain ⟨q, hq⟩ := hw
      have HQ := Lib.hid hq
      clear hq
      go_wp2_with fail
      go_ret
      exact ⟨rfl, q, HQ.out⟩
end Go.Proofs.Ytpdofcjgpomehaa
