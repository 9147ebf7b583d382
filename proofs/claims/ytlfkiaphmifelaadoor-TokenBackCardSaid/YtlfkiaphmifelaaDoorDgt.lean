/- Contract of the document's Digits. -/
import Derived.Outline
import Derived.Deep.DeepCutAuto
import Derived.Shelf.Strconv.Itoa3
import Derived.Test.YtlfkiaphmifelaaDoorTxt
namespace Go.Proofs.YtlfkiaphmifelaaDoor
open Go.RowKit

theorem dec_len' : ∀ (m u : Nat), u < 10 ^ (m + 1) → (Lib.decDigits u).length ≤ m + 1
  | 0, u, h => by rw [Lib.decDigits, dif_pos (by simpa using h)]; simp
  | m + 1, u, h => by
    rw [Lib.decDigits]
    split
    · simp
    · have := dec_len' m (u / 10) (by rw [Nat.pow_succ] at h; omega)
      rw [List.length_append, List.length_singleton]
      omega
theorem dec_len19 {u : Nat} (h : u ≤ 9223372036854775807) : (Lib.decDigits u).length ≤ 19 := dec_len' 18 u (by omega)
theorem dig_str (w : World) (d : Nat) (h : d < 10) (z : Int) (e : z = 48 + (d : Int)) : (convert 35 9 (.slice (some ⟨w.heap.size, 0, none⟩) 1 1)).run Tryd.prog (w.alloc (.cells #[.int .u8 z] 5)) = .ok (.string ⟨#[UInt8.ofNat (48 + d)]⟩) (w.alloc (.cells #[.int .u8 z] 5)) := by
  have e2 : bcells [UInt8.ofNat (48 + d)] = [.int .u8 z] := by
    unfold bcells
    rw [List.map_cons, List.map_nil, UInt8.toNat_ofNat', Nat.mod_eq_of_lt (by omega), e]
    push_cast
    rfl
  exact run_str_own (w.alloc (.cells #[.int .u8 z] 5)) 35 9 5 w.heap.size (.slice (some ⟨w.heap.size, 0, none⟩) 1 1) 1 [UInt8.ofNat (48 + d)] Tryd.underlying35 Tryd.underlying5 Tryd.underlying9 rfl
    (by rw [e2]; exact ⟨rfl, .inr ⟨w.heap.size, 1, #[.int .u8 z], rfl, Nat.le_refl _, heap_alloc_new w _, Nat.le_refl _, by unfold maxLen; omega, rfl, rfl⟩⟩)
theorem str_app (a b : List UInt8) : (⟨a.toArray⟩ : ByteArray) ++ ⟨b.toArray⟩ = ⟨(a ++ b).toArray⟩ := by
  apply ByteArray.ext
  rw [ByteArray.data_append]
  simp
set_option maxRecDepth 100000 in
set_option maxHeartbeats 4000000 in
theorem digits_any (x : Nat) (hx : x ≤ 9223372036854775807) (w : World) : Calls Tryd.prog 19 #[.int .i64 (x : Nat)] w fun e w' => e = .returned (.string ⟨(Lib.decDigits x).toArray⟩) ∧ Below w.heap.size w w' := by
  obtain ⟨R, hR⟩ : ∃ R, R = Lib.decDigits x := ⟨_, rfl⟩
  have HR := Lib.hid hR
  rw [← hR]
  have HR0 : Hid (R.length ≤ 19) := Lib.hid (by rw [hR]; exact dec_len19 hx)
  clear hR
  go_enter Tryd.func19, Tryd.ntmps19
  go_wp2_with fail
  go_loopw [0, 3] (fun s0 s3 wr => ∃ (y : Nat) (acc : List UInt8), s0 = .int .i64 (y : Nat) ∧ s3 = .string ⟨acc.toArray⟩ ∧ y ≤ x ∧ Lib.decDigits y ++ acc = R ∧ Below w.heap.size w wr) (fun s0 _ _ => (intOf s0).toNat)
  case atStart => exact ⟨x, [], rfl, rfl, Nat.le_refl _, by rw [HR.out, List.append_nil], Below.refl _ _⟩
  case round =>
    obtain ⟨y, acc, rfl, rfl, hyx, hd, hb⟩ := hrel
    have HD := Lib.hid hd
    have HB := Lib.hid hb
    have hal : acc.length ≤ 100 := by
      have h1 := congrArg List.length HD.out
      have h2 := HR0.out
      rw [List.length_append] at h1
      omega
    obtain ⟨st, hst⟩ : ∃ z, z = (⟨acc.toArray⟩ : ByteArray) := ⟨_, rfl⟩
    have HST := Lib.hid hst
    have hsz : st.size = acc.length := by rw [hst]; rfl
    obtain ⟨m, hm⟩ : ∃ m, m = acc.length := ⟨_, rfl⟩
    rw [← hm] at hal hsz
    rw [← hst]
    clear hd hb hst hm
    by_cases h9 : 9 < y
    · have d9 : decide ((y : Int) > 9) = true := decide_eq_true (by omega)
      have d9' : decide (9 < y) = true := decide_eq_true h9
      obtain ⟨ch, hch⟩ : ∃ z, z = UInt8.ofNat (48 + y % 10) := ⟨_, rfl⟩
      have HS := Lib.hid (dig_str wr (y % 10) (by omega) (48 + (y : Int) % 10) (by omega))
      rw [← hch] at HS
      have HB1 : Hid (Below w.heap.size w (wr.alloc (.cells #[.int .u8 (48 + (y : Int) % 10)] 5))) := Lib.hid (HB.out.alloc HB.out.size _)
      have HE : Hid (Lib.decDigits (y / 10) ++ ([ch] ++ acc) = R) := Lib.hid (by
        have h := HD.out
        rw [Lib.decDigits, dif_neg (by omega), ← hch, List.append_assoc] at h
        exact h)
      have HX : Hid ((⟨#[ch]⟩ : ByteArray) ++ st = ⟨([ch] ++ acc).toArray⟩) := Lib.hid (by rw [HST.out]; exact str_app [ch] acc)
      clear hch
      go_upto_region 4 with fail
      rw [HS.out]
      simp only [Result.andThen]
      rw [Oper.upon_value]
      generalize wr.alloc (.cells #[.int .u8 (48 + (y : Int) % 10)] 5) = w2 at *
      go_wp2_with fail
      go_roundw
      case rel => exact ⟨y / 10, [ch] ++ acc, by simp, by rw [HX.out], by omega, HE.out, HB1.out⟩
      case measure => simp [intOf]; omega
    · have d9 : decide ((y : Int) > 9) = false := decide_eq_false (by omega)
      have d9' : decide (9 < y) = false := decide_eq_false h9
      obtain ⟨ch, hch⟩ : ∃ z, z = UInt8.ofNat (48 + y) := ⟨_, rfl⟩
      have HS := Lib.hid (dig_str wr y (by omega) (48 + (y : Int)) (by omega))
      rw [← hch] at HS
      have HB1 : Hid (Below w.heap.size w (wr.alloc (.cells #[.int .u8 (48 + (y : Int))] 5))) := Lib.hid (HB.out.alloc HB.out.size _)
      have HX : Hid ((⟨#[ch]⟩ : ByteArray) ++ st = ⟨R.toArray⟩) := Lib.hid (by
        have h := HD.out
        rw [Lib.decDigits, dif_pos (by omega), ← hch] at h
        rw [HST.out, ← h]
        exact str_app [ch] acc)
      clear hch
      go_wp2_with fail
      rw [HS.out]
      simp only [Result.andThen]
      rw [Oper.upon_value]
      generalize wr.alloc (.cells #[.int .u8 (48 + (y : Int))] 5) = w2 at *
      go_wp2_with fail
      go_ret
      exact ⟨by rw [← HX.out]; rfl, HB1.out⟩
end Go.Proofs.YtlfkiaphmifelaaDoor
