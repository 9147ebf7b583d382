/- Contracts of prompterref06.Sum, four and of frame.put. At most 70000 bytes. -/
import Derived.Test.YtmoplkmfpobhaaaSum
namespace Go.Proofs.Ytmoplkmfpobhaaa
open Go.RowKit

theorem Try.info5 : (Try.prog.info? 5).map (fun i => (i.zero, i.size, i.bytes)) = some (some (.int .u8 0), 1, 1) := by kernel_rfl

theorem xorPoly (c : Nat) (h : c < 4294967296) : bits BinOp.xor IntKind.u32 ((c : Int) / 2) 3988292384 = ((c / 2 ^^^ 3988292384 : Nat) : Int) := by
  rw [show (c : Int) / 2 = ((c / 2 : Nat) : Int) from by omega]
  exact u32_xor_nat (c / 2) 3988292384 (by omega) (by omega)
theorem notGo2 (c : Nat) (h : c < 4294967296) : bits BinOp.xor IntKind.u32 (c : Int) 4294967295 = ((c ^^^ 4294967295 : Nat) : Int) := u32_xor_nat c 4294967295 h (by omega)

set_option maxHeartbeats 400000 in
theorem refSum_any (A : Option Addr) (n cap : Nat) (l : List UInt8) (w : World) (hl : l.length = n) (hn : n ≤ 70000) (B : Nat) (hr : Reads w B 1 A n (bcells l)) :
    Calls Try.prog 14 #[.slice A n cap] w fun e w' => e = .returned (.int .u32 (sumL l)) ∧ w = w' := by
  have HL := Lib.hid hl
  have HR := Lib.hid hr
  clear hl hr
  go_enter Try.func14, Try.ntmps14
  go_wp2
  go_loop [3, 4] (fun c i => ∃ k : Nat, k ≤ n ∧ i = .int .i64 k ∧ c = .int .u32 (sumR 4294967295 (l.take k))) (fun _ i => n - (intOf i).toNat)
  case atStart => exact ⟨0, by omega, rfl, rfl⟩
  case round =>
    obtain ⟨k, hk, rfl, rfl⟩ := hrel
    by_cases hlt : k < n
    · have hlk : k < l.length := by rw [HL.out]; exact hlt
      obtain ⟨b0, off, rfl, _, hcs⟩ := HR.out.bytes (by omega)
      have hcell := hcs k hlk
      have HS := Lib.hid (sumR_take 4294967295 l k hlk)
      have hcl : sumR 4294967295 (l.take k) < 4294967296 := sumR_lt _ (by omega)
      have hb : l[k].toNat < 256 := UInt8.toNat_lt _
      generalize l[k].toNat = b at hcell HS hb
      generalize sumR 4294967295 (l.take k) = c at HS hcl
      clear hcs
      have hx : c ^^^ b < 4294967296 := Nat.xor_lt_two_pow (n := 32) (by omega) (by omega)
      have f1 := xorGo c b hcl (by omega)
      have HN := Lib.hid (show byteStep c b = steps 8 (c ^^^ b) from rfl)
      generalize c ^^^ b = x at f1 hx HN
      go_wp2
      go_loop [3, 5] (fun c i => ∃ j : Nat, j ≤ 8 ∧ i = .int .i64 j ∧ c = .int .u32 (steps j x)) (fun _ i => 8 - (intOf i).toNat)
      case atStart => exact ⟨0, by omega, rfl, rfl⟩
      case round =>
        obtain ⟨j, hj, rfl, rfl⟩ := hrel
        have hc : steps j x < 4294967296 := steps_lt j hx
        have HS2 := Lib.hid (steps_succ j x)
        by_cases hlj : j < 8
        · generalize steps j x = y at hc HS2
          have hp := xorPoly y hc
          by_cases hodd : y % 2 = 1
          · have ht : (((y : Int) % 2) == 1) = true := by rw [beq_iff_eq]; omega
            have HO := Lib.hid (show step y = y / 2 ^^^ 3988292384 by unfold step; rw [if_pos hodd])
            clear hodd
            go_wp2
            go_round
            case rel => exact ⟨j + 1, by omega, by go_num, by rw [HS2.out, HO.out]⟩
            case measure => simp [intOf]; omega
          · have ht : (((y : Int) % 2) == 1) = false := by rw [beq_eq_false_iff_ne]; omega
            have HO := Lib.hid (show step y = y / 2 by unfold step; rw [if_neg hodd])
            clear hodd
            go_wp2
            go_round
            case rel => exact ⟨j + 1, by omega, by go_num, by rw [HS2.out, HO.out]; rfl⟩
            case measure => simp [intOf]; omega
        · have hj8 : j = 8 := by omega
          subst hj8
          go_wp2
          go_round
          case rel => exact ⟨k + 1, by omega, by go_num, by rw [HS.out, HN.out]⟩
          case measure => simp [intOf]; omega
    · have hkn : k = n := by omega
      have HE := Lib.hid (show l.take k = l by rw [hkn]; exact List.take_of_length_le (by rw [HL.out]; omega))
      have hcl : sumR 4294967295 (l.take k) < 4294967296 := sumR_lt _ (by omega)
      have HT := Lib.hid (show bits BinOp.xor IntKind.u32 ((sumR 4294967295 (l.take n) : Nat) : Int) 4294967295 = ((sumL l : Nat) : Int) by
        rw [← hkn, HE.out, notGo2 _ (by rw [← HE.out]; exact hcl)]; rfl)
      go_wp2
      go_ret
      exact ⟨ret_int HT.out, rfl⟩

theorem le4_get (n : Nat) : le4 n = [UInt8.ofNat (n % 256), UInt8.ofNat (n / 256 % 256), UInt8.ofNat (n / 65536 % 256), UInt8.ofNat (n / 16777216 % 256)] := rfl
theorem le4_cells (n : Nat) (h : n < 4294967296) : bcells (le4 n) = [.int .u8 ((n : Int) % 256), .int .u8 ((n : Int) / 256 % 256), .int .u8 ((n : Int) / 65536 % 256), .int .u8 ((n : Int) / 16777216)] := by
  unfold le4 bcells
  simp only [List.map_cons, List.map_nil, UInt8.toNat_ofNat']
  have e1 : ((n % 256 % 2 ^ 8 : Nat) : Int) = (n : Int) % 256 := by omega
  have e2 : ((n / 256 % 256 % 2 ^ 8 : Nat) : Int) = (n : Int) / 256 % 256 := by omega
  have e3 : ((n / 65536 % 256 % 2 ^ 8 : Nat) : Int) = (n : Int) / 65536 % 256 := by omega
  have e4 : ((n / 16777216 % 256 % 2 ^ 8 : Nat) : Int) = (n : Int) / 16777216 := by omega
  rw [e1, e2, e3, e4]
theorem news_alloc (w : World) (cs : List Value) (e : TypeId) : ∀ j u, cs[j]? = some u → (w.alloc (.cells cs.toArray e)).cell? ((⟨w.heap.size, 0, none⟩ : Addr).add j) = some u := by
  intro j u h
  rw [addr_add, Nat.zero_add]
  exact (World.cell?_alloc_new w _ _ _).trans (by simpa using h)

set_option maxHeartbeats 400000 in
theorem put_any (v : Value) (k : Nat) (l : List UInt8) (n : Nat) (B : Nat) (w : World) (hn : n < 4294967296) (hk : k ≤ 70000) (hB : B ≤ w.heap.size) (ho : w.ownsRow B 5 1 v k (bcells l)) :
    Calls Try.prog 25 #[v, .int .u32 n] w fun e w' => ∃ v', e = .returned v' ∧ w'.ownsRow B 5 1 v' (k + 4) (bcells (l ++ le4 n)) ∧ Below B w w' := by
  obtain ⟨i0, hi, hz0, hz1, hz2⟩ := info_parts Try.info5
  have HO := Lib.hid ho
  clear ho
  go_enter Try.func25, Try.ntmps25
  go_wp2_with (at_builtin; refine wpList_append_own _ rfl _ _ 22 rfl B 5 i0 (.int .u8 0) 1 1 Try.underlying22 hi hz0 hz1 hz2 rfl (by decide) _ _ _ rfl (HO.out.alloc _) ⟨w.heap.size, 0, none⟩ 4 4 [_, _, _, _] rfl rfl (news_alloc _ _ _) ?c2 ?c3 ?c4 ?c5 ?_)
  case c2 => intro u hu; simp at hu; rcases hu with rfl | rfl | rfl | rfl <;> rfl
  case c3 => unfold maxLen; omega
  case c4 => omega
  case c5 => simp; omega
  intro v1 w1 ho1 hg1 _
  rw [← le4_cells n hn, ← bcells_append] at ho1
  have hb : Below B w w1 := ((Below.refl B w).alloc hB _).grown hg1 (by simp; omega) (fun g hg => (World.ownsRow.lt HO.out g hg).1)
  have HO1 := Lib.hid ho1
  have HB := Lib.hid hb
  clear ho1 hb hg1
  go_wp2_with fail
  go_ret
  exact ⟨_, rfl, HO1.out, HB.out⟩
end Go.Proofs.Ytmoplkmfpobhaaa
