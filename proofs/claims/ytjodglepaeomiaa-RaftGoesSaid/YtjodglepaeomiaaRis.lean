/- Contract of raft.rises. -/
import Derived.Outline
import Derived.Test.YtjodglepaeomiaaRws
namespace Go.Proofs.Ytjodglepaeomiaa
open Go.RowKit

theorem RdL.ents {w : World} {A : Option Addr} {l : List Ent} (h : RdE w A l) {k : Nat} {x : Ent} (hx : l[k]? = some x) :
    ∃ b off, A = some ⟨b, off, none⟩ ∧ b < w.heap.size ∧ w.cell? ⟨b, off + k * 2, none⟩ = some (.int .i64 x.term) ∧ w.cell? ⟨b, off + k * 2 + 1, none⟩ = some (.string x.data) := by
  rcases h with h | ⟨b, off, rfl, hb, hat⟩
  · rw [h] at hx; simp at hx
  · exact ⟨b, off, rfl, hb, hat k x hx 0 _ rfl, hat k x hx 1 _ rfl⟩
set_option maxRecDepth 100000 in
set_option maxHeartbeats 2000000 in
theorem rises_any (X : Option Addr) (c : Nat) (l : List Ent) (least most : Int) (w : World) (hrd : RdE w X l) (hlen : l.length ≤ 9223372036854775807) :
    Calls Try.prog 63 #[.slice X l.length c, .int .i64 least, .int .i64 most] w fun e w' => e = .returned (.bool (rises l least most)) ∧ Below w.heap.size w w' := by
  obtain ⟨n, hn⟩ : ∃ n, n = l.length := ⟨_, rfl⟩
  rw [← hn] at hlen ⊢
  obtain ⟨bb, hbb⟩ : ∃ b, b = rises l least most := ⟨_, rfl⟩
  rw [← hbb]
  have HR := Lib.hid (And.intro hrd (And.intro hn hbb))
  clear hrd hn hbb
  go_enter Try.func63, Try.ntmps63
  go_wp2_with fail
  go_loopw [1, 11] (fun s1 s11 wr => ∃ (k : Nat) (lo : Int), s11 = .int .i64 (k : Nat) ∧ s1 = .int .i64 lo ∧ k ≤ n ∧ rises (l.drop k) lo most = bb ∧ Below w.heap.size w wr) (fun _ s11 _ => n - (intOf s11).toNat)
  case atStart => exact ⟨0, least, rfl, rfl, by omega, HR.out.2.2.symm, Below.refl _ _⟩
  case round =>
    obtain ⟨k, lo, rfl, rfl, hk, hrs, hb⟩ := hrel
    have HB := Lib.hid hb
    clear hb
    by_cases hlt : k < n
    · have hkl : k < l.length := by rw [← HR.out.2.1]; exact hlt
      obtain ⟨x, hx⟩ : ∃ x, l[k]? = some x := ⟨_, List.getElem?_eq_getElem hkl⟩
      obtain ⟨b, off, rfl, hbl, c0, c1⟩ := (HR.out.1.below HB.out).ents hx
      have hd : l.drop k = x :: l.drop (k + 1) := by rw [List.drop_eq_getElem_cons hkl]; congr 1; rw [List.getElem?_eq_getElem hkl] at hx; injection hx
      rw [hd, rises] at hrs
      have HRS := Lib.hid hrs
      have hk0 : (0 : Int) ≤ (k : Int) := by omega
      have hkn : (k : Int) < (n : Int) := by omega
      have hd1 : decide ((k : Int) < (n : Int)) = true := decide_eq_true hkn
      obtain ⟨t, d⟩ := x
      dsimp only at c0 c1 HRS
      clear hrs hx hd hkl
      have HBAD := Lib.hid (show t < lo ∨ most < t ∨ 65536 < d.size → false = bb from fun h => by
        have h1 : (decide (t < lo) || decide (most < t) || decide (65536 < d.size)) = true := by simp; omega
        rw [← HRS.out, h1]; rfl)
      have HGOOD := Lib.hid (show ¬ (t < lo ∨ most < t ∨ 65536 < d.size) → rises (l.drop (k + 1)) t most = bb from fun h => by
        have h1 : (decide (t < lo) || decide (most < t) || decide (65536 < d.size)) = false := by simp; omega
        have h2 := HRS.out
        rw [h1] at h2
        exact h2)
      have HB2 : Hid (Below w.heap.size w (wr.alloc (.cells #[.int .i64 t, .string d] 39))) := HB.out.alloc HB.out.size _
      clear HRS
      go_wp2_with fail
      case roundEnd =>
        go_roundw
        case rel => exact ⟨k + 1, t, by go_num, rfl, by omega, HGOOD.out (by omega), HB2.out⟩
        case measure => simp [intOf]; omega
      all_goals
        go_ret
        exact ⟨ret_bool (HBAD.out (by omega)), HB2.out⟩
    · have hd1 : decide ((k : Int) < (n : Int)) = false := decide_eq_false (by omega)
      have HF : Hid (true = bb) := by
        have h1 : l.drop k = [] := List.drop_of_length_le (by have := HR.out.2.1; omega)
        rw [h1] at hrs
        exact hrs
      clear hrs
      go_wp2_with fail
      go_ret
      exact ⟨ret_bool HF.out, HB.out⟩
end Go.Proofs.Ytjodglepaeomiaa
