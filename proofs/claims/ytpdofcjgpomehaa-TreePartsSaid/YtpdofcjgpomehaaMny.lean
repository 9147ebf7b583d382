/- Contract of the laws' Many, for trees that are no longer than a bound: what it lets through is small altogether. -/
import Derived.Test.YtpdofcjgpomehaaMde
import Derived.Test.YtpdofcjgpomehaaRcy
namespace Go.Proofs.Ytpdofcjgpomehaa
open Go.RowKit

def ManyPost2 (ls : List (List Tw)) (w : World) (e : Ending) (w' : World) : Prop := (∃ b : Bool, e = .returned (.bool b) ∧ (b = false → ls.length ≤ 3001 ∧ ls.flatten.length ≤ 6000)) ∧ w' = w
set_option maxHeartbeats 2000000 in
theorem many_any2 (P : Option Addr) (c : Nat) (vs : List Value) (ls : List (List Tw)) (w : World) (hP : RdP w P vs) (hF : RdF w vs ls) (hlen : vs.length ≤ 9223372036854775807) (hsm : ∀ l ∈ ls, l.length ≤ 1048576) :
    Calls Try.prog 17 #[.slice P vs.length c] w (ManyPost2 ls w) := by
  obtain ⟨n, hn⟩ : ∃ n, n = vs.length := ⟨_, rfl⟩
  rw [← hn] at hlen ⊢
  have HN := Lib.hid (And.intro hn (And.intro (hn.trans hF.len) hsm))
  have HP := Lib.hid (And.intro hP hF)
  generalize hQ : ManyPost2 ls w = Q
  have HQ := Lib.hid hQ
  clear hn hP hF hQ hsm
  go_enter Try.func17, Try.ntmps17
  go_wp2_with fail
  go_loopw [3, 4] (fun s3 s4 wr => wr = w ∧ ∃ (i z : Nat), s4 = .int .i64 (i : Nat) ∧ s3 = .int .i64 (z : Nat) ∧ i ≤ n ∧ i ≤ 3001 ∧ z = (ls.take i).flatten.length ∧ z ≤ 1054576) (fun _ s4 _ => n - (intOf s4).toNat)
  case atStart => exact ⟨rfl, 0, 0, rfl, rfl, by omega, by omega, rfl, by omega⟩
  case round =>
    obtain ⟨rfl, i, z, rfl, rfl, hi, hi3, hzs, hz8⟩ := hrel
    have HZ := Lib.hid hzs
    clear hzs
    by_cases hlt : i < n
    · have hd1 : decide ((i : Int) < (n : Int)) = true := decide_eq_true (by omega)
      by_cases hz : 6000 < z
      · have hd2 : decide ((6000 : Int) < (z : Int)) = true := decide_eq_true (by omega)
        go_wp2_with fail
        rw [← HQ.out]
        exact ⟨⟨true, rfl, fun h => by cases h⟩, rfl⟩
      · have hd2 : decide ((6000 : Int) < (z : Int)) = false := decide_eq_false (by omega)
        by_cases hi4 : 3000 < i
        · have hd3 : decide ((3000 : Int) < (i : Int)) = true := decide_eq_true (by omega)
          go_wp2_with fail
          rw [← HQ.out]
          exact ⟨⟨true, rfl, fun h => by cases h⟩, rfl⟩
        · have hd3 : decide ((3000 : Int) < (i : Int)) = false := decide_eq_false (by omega)
          obtain ⟨v, hv⟩ : ∃ v, vs[i]? = some v := ⟨_, List.getElem?_eq_getElem (by rw [← HN.out.1]; exact hlt)⟩
          obtain ⟨l, hl⟩ : ∃ l, ls[i]? = some l := ⟨_, List.getElem?_eq_getElem (by rw [← HN.out.2.1]; exact hlt)⟩
          obtain ⟨b, off, rfl, _, hat⟩ : ∃ b off, P = some ⟨b, off, none⟩ ∧ b < wr.heap.size ∧ ∀ (i : Nat) (v : Value), vs[i]? = some v → wr.cell? ⟨b, off + i, none⟩ = some v := HP.out.1.resolve_left (fun h => by rw [h] at hv; simp at hv)
          have c0 := hat i v hv
          obtain ⟨A1, c1, rfl, _, _, _⟩ := HP.out.2.at_ i v l hv hl
          have hll := HN.out.2.2 l (List.mem_of_getElem? hl)
          have HZ2 := Lib.hid (show z + l.length = (ls.take (i + 1)).flatten.length from by
            rw [List.take_add_one, hl, HZ.out]; simp)
          generalize l.length = ll at *
          have hi0 : (0 : Int) ≤ (i : Int) := by omega
          have hin : (i : Int) < (n : Int) := by omega
          clear hat hv hl
          go_wp2_with fail
          go_roundw
          case rel => exact ⟨trivial, i + 1, z + ll, by go_num, by go_num, by omega, by omega, HZ2.out, by omega⟩
          case measure => simp [intOf]; omega
    · have hd1 : decide ((i : Int) < (n : Int)) = false := decide_eq_false (by omega)
      have HI : Hid (ls.length ≤ 3001 ∧ z = ls.flatten.length) := ⟨by have := HN.out.2.1; omega, by rw [HZ.out, List.take_of_length_le (by have := HN.out.2.1; omega)]⟩
      go_wp2_with fail
      rw [← HQ.out]
      refine ⟨⟨_, rfl, fun h => ⟨HI.out.1, ?_⟩⟩, rfl⟩
      have h1 := HI.out.2
      have h2 := of_decide_eq_false h
      omega
end Go.Proofs.Ytpdofcjgpomehaa
