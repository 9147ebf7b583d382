/- Contracts of plane.digits and plane.Text. -/
import Derived.Test.YtaijnchfjliiaaaKn
namespace Go.Proofs.Ytaijnchfjliiaaa
open Go.RowKit

theorem Try.info5 : (Try.prog.info? 5).map (fun i => (i.zero, i.size, i.bytes)) = some (some (.int .u8 0), 1, 1) := by kernel_rfl

/-- A digit's byte. -/
def hexc (d : Nat) : Nat := if d < 10 then 48 + d else 87 + d
def hexOf (x j : Nat) : Nat := hexc (x / 2 ^ (60 - 4 * j) % 16)
def hexL (x k : Nat) : List Value := (List.range k).map fun j => .int .u8 (hexOf x j)
theorem hexL_succ (x k : Nat) : hexL x (k + 1) = hexL x k ++ [.int .u8 (hexOf x k)] := by
  unfold hexL; rw [List.range_succ, List.map_append]; rfl

theorem hex_at (d : Nat) (h : d < 16) (hd : d < (ByteArray.mk #[48, 49, 50, 51, 52, 53, 54, 55, 56, 57, 97, 98, 99, 100, 101, 102]).size) :
    (((ByteArray.mk #[48, 49, 50, 51, 52, 53, 54, 55, 56, 57, 97, 98, 99, 100, 101, 102])[d]'hd).toNat : Int) = (hexc d : Int) := by
  have : d = 0 ∨ d = 1 ∨ d = 2 ∨ d = 3 ∨ d = 4 ∨ d = 5 ∨ d = 6 ∨ d = 7 ∨ d = 8 ∨ d = 9 ∨ d = 10 ∨ d = 11 ∨ d = 12 ∨ d = 13 ∨ d = 14 ∨ d = 15 := by omega
  rcases this with rfl | rfl | rfl | rfl | rfl | rfl | rfl | rfl | rfl | rfl | rfl | rfl | rfl | rfl | rfl | rfl <;> rfl

theorem and15 (x e : Nat) (hx : x < 2 ^ 64) : bits BinOp.and IntKind.u64 ((x : Int) / 2 ^ e) 15 = ((x / 2 ^ e % 16 : Nat) : Int) := by
  have h1 : (x : Int) / 2 ^ e = ((x / 2 ^ e : Nat) : Int) := by
    rw [Int.natCast_ediv, Int.natCast_pow]; rfl
  have h2 : x / 2 ^ e ≤ x := Nat.div_le_self _ _
  rw [h1]
  have := u64_and_nat (x / 2 ^ e) 15 (by omega) (by omega)
  rw [show ((15 : Nat) : Int) = 15 from rfl] at this
  rw [this, show (15 : Nat) = 2 ^ 4 - 1 from rfl, Nat.and_two_pow_sub_one_eq_mod]

set_option maxHeartbeats 400000 in
theorem digits_any (x : Nat) (hx : x < 2 ^ 64) (v : Value) (n : Nat) (xs : List Value) (B : Nat) (w : World) (hown : w.ownsRow B 5 1 v n xs) (hB : B ≤ w.heap.size) (hn : n ≤ 1000) :
    Calls Try.prog 25 #[v, .float .f64 x] w fun e w' => ∃ v', e = .returned v' ∧ w'.ownsRow B 5 1 v' (n + 16) (xs ++ hexL x 16) ∧ Below B w w' := by
  have e1 := fun W => run_bits x W
  obtain ⟨i0, hi, hz0, hz1, hz2⟩ := info_parts Try.info5
  go_enter Try.func25, Try.ntmps25
  go_wp2
  go_loopw [0, 6] (fun s i wr => ∃ k : Nat, k ≤ 16 ∧ i = .int .i64 (60 - 4 * (k : Int)) ∧ wr.ownsRow B 5 1 s (n + k) (xs ++ hexL x k) ∧ Below B w wr)
    (fun _ i _ => (intOf i + 4).toNat)
  case atStart => exact ⟨0, by omega, rfl, by simpa [hexL] using hown, Below.refl _ _⟩
  case round =>
    obtain ⟨k, hk, rfl, ho, hbl⟩ := hrel
    by_cases hlt : k < 16
    · have hd := and15 x (60 - 4 * k) hx
      have hlt16 : x / 2 ^ (60 - 4 * k) % 16 < 16 := Nat.mod_lt _ (by omega)
      have HD := Lib.hid (show hexOf x k = hexc (x / 2 ^ (60 - 4 * k) % 16) from rfl)
      generalize x / 2 ^ (60 - 4 * k) % 16 = d at hd hlt16 HD
      have HS := Lib.hid (hexL_succ x k)
      go_wp2_with (at_builtin; refine wpList_append_own _ rfl _ _ 46 rfl B 5 i0 (.int .u8 0) 1 1 Try.underlying46 hi hz0 hz1 hz2 rfl (by decide) _ _ _ rfl (ho.alloc _) ⟨wr.heap.size, 0, none⟩ 1 1 [_] rfl rfl (cell_one_new _ _ _) ?c2 ?c3 ?c4 ?c5 ?_)
      case c2 => intro u hu; simp at hu; subst hu; rfl
      case c3 => unfold maxLen; omega
      case c4 => omega
      case c5 => have := hbl.size; simp; omega
      intro v1 w1 ho1 hg1 _
      have ho2 : w1.ownsRow B 5 1 v1 (n + (k + 1)) (xs ++ hexL x (k + 1)) := by
        rw [hex_at d hlt16] at ho1
        rw [HS.out, HD.out]
        exact ho1
      have hb2 : Below B w w1 := (hbl.alloc (Nat.le_trans hB hbl.size) _).grown hg1 (by have := hbl.size; simp; omega) (fun g hg => (World.ownsRow.lt ho g hg).1)
      clear ho1 hg1 hd
      go_wp2_with fail
      go_roundw
      case rel => exact ⟨k + 1, by omega, by go_num, ho2, hb2⟩
      case measure => simp [intOf]; omega
    · go_wp2_with fail
      go_ret
      have hk16 : k = 16 := by omega
      subst hk16
      exact ⟨_, rfl, ho, hbl⟩
def hexB (x k : Nat) : List UInt8 := (List.range k).map fun j => UInt8.ofNat (hexOf x j)
theorem hexc_lt (d : Nat) (h : d < 16) : hexc d < 256 := by unfold hexc; split <;> omega
theorem hexL_bytes (x k : Nat) : hexL x k = bcells (hexB x k) := by
  unfold hexL bcells hexB
  rw [List.map_map]
  apply List.map_congr_left
  intro j _
  have h : hexOf x j < 256 := hexc_lt _ (Nat.mod_lt _ (by omega))
  show Value.int .u8 (hexOf x j : Int) = .int .u8 ((UInt8.ofNat (hexOf x j)).toNat : Int)
  rw [UInt8.toNat_ofNat', Nat.mod_eq_of_lt h]

/-- What Text tells: the digits of both parts. -/
theorem text_I (x y : Nat) (n m : Int) (hx : IsP x n) (hy : IsP y m) (hx2 : x < 2 ^ 64) (hy2 : y < 2 ^ 64) (w : World) :
    Calls Try.prog 16 #[.complex .f64 x y] w fun e w' => e = .returned (.string ⟨(hexB x 16 ++ hexB y 16).toArray⟩) ∧ Below w.heap.size w w' := by
  go_enter Try.func16, Try.ntmps16
  go_wp2_with fail
  refine (Fine_I x y n m hx hy _).mono ?_
  rintro e w' ⟨rfl, rfl⟩
  go_wp2_with fail
  refine (digits_any x hx2 _ 0 [] w.heap.size _ (World.ownsRow_nil _ _ _ _) (Nat.le_refl _) (by omega)).mono ?_
  rintro e w1 ⟨v1, rfl, ho1, hb1⟩
  go_wp2_with fail
  refine (digits_any y hy2 _ _ _ w.heap.size _ ho1 hb1.size (by omega)).mono ?_
  rintro e w2 ⟨v2, rfl, ho2, hb2⟩
  have hcv := run_str_own (P := Try.prog) w2 46 9 5 w.heap.size v2 (0 + 16 + 16) (hexB x 16 ++ hexB y 16) Try.underlying46 Try.underlying5 Try.underlying9 (by simp [hexB])
    (by rw [bcells_append, ← hexL_bytes, ← hexL_bytes]; exact ho2)
  have HB := Lib.hid (hb1.trans hb2)
  clear ho1 ho2 hb1 hb2
  go_wp2_with fail
  go_ret
  exact ⟨rfl, HB.out⟩
end Go.Proofs.Ytaijnchfjliiaaa
