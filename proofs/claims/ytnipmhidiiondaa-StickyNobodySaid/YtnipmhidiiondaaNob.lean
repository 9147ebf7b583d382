/- The walk of prompterlaw19.StickyNobody, and the contracts of a cache of texts that nobody made. -/
import Derived.LoopN
import Derived.Outline
import Derived.Test.YtnipmhidiiondaaAwk
namespace Go.Proofs.Ytnipmhidiiondaa
open Go.RowKit Go.Maps

abbrev zeroTop : Array Value := #[.int .i64 0, .map none, .slice none 0 0, .slice none 0 0, .int .i64 0, .int .i64 0]
/-- A cache that nobody made: none, or one of zeros. -/
def Nob (w : World) (P : Option Addr) : Prop := P = none ∨ ∃ b, P = some ⟨b, 0, none⟩ ∧ Blk w b 55 zeroTop
theorem Nob.drewN {w : World} {P : Option Addr} (h : Nob w P) (n : Nat) : Nob (w.drewN n) P := h
theorem nil_look (s : ByteArray) (hs : s.size ≤ maxLen) (w : World) : (Instr.lookup 51 (.map none) (.string s) true).run Try.prog w = .ok (.tuple #[.int .i64 0, .bool false]) w :=
  Maps.look_nil true law9 Try.underlying51 (zero3 w) (key9 hs)
theorem nil_len (ty : TypeId) (w : World) : (Builtin.len_ #[51] ty #[.map none]).run Try.prog w = .ok (.int .i64 0) w := Maps.len_nil Try.underlying51 ty
set_option maxHeartbeats 1000000 in
theorem nob_room (P : Option Addr) (w : World) (h : Nob w P) :
    Calls Try.prog 33 #[.pointer P] w fun e w' => e = .returned (.int .i64 0) ∧ w' = w := by
  rcases h with rfl | ⟨b, rfl, hb⟩
  · skip
    skip
    go_enter Try.func33, Try.ntmps33
    go_wp2_with fail
    go_ret
    exact ⟨rfl, rfl⟩
  · have k0 : w.cell? ⟨b, 0, none⟩ = some (.int .i64 0) := hb.cell 0
    have k1 : w.cell? ⟨b, 1, none⟩ = some (.map none) := hb.cell 1
    have k4 : w.cell? ⟨b, 4, none⟩ = some (.int .i64 0) := hb.cell 4
    have k5 : w.cell? ⟨b, 5, none⟩ = some (.int .i64 0) := hb.cell 5
    clear hb k1 k4 k5
    go_enter Try.func33, Try.ntmps33
    go_wp2_with fail
    go_ret
    exact ⟨rfl, rfl⟩

set_option maxHeartbeats 1000000 in
theorem nob_put (P : Option Addr) (s x : ByteArray) (w : World) (h : Nob w P) :
    Calls Try.prog 26 #[.pointer P, .string s, .string x] w fun e w' => e = .returned (.tuple #[.string ⟨#[]⟩, .bool false]) ∧ w' = w := by
  rcases h with rfl | ⟨b, rfl, hb⟩
  · skip
    have HR := Lib.hid (nob_room none w (.inl rfl))
    go_enter Try.func26, Try.ntmps26
    go_wp2_with fail
    refine (HR.out).mono ?_
    rintro e w1 ⟨rfl, hw1⟩
    rw [hw1]
    clear hw1 w1
    go_wp2_with fail
    go_ret2
    exact ⟨rfl, rfl⟩
  · have k0 : w.cell? ⟨b, 0, none⟩ = some (.int .i64 0) := hb.cell 0
    have k1 : w.cell? ⟨b, 1, none⟩ = some (.map none) := hb.cell 1
    have k4 : w.cell? ⟨b, 4, none⟩ = some (.int .i64 0) := hb.cell 4
    have k5 : w.cell? ⟨b, 5, none⟩ = some (.int .i64 0) := hb.cell 5
    have HR := Lib.hid (nob_room (some ⟨b, 0, none⟩) w (.inr ⟨b, rfl, hb⟩))
    clear hb k0 k1 k4 k5
    go_enter Try.func26, Try.ntmps26
    go_wp2_with fail
    refine (HR.out).mono ?_
    rintro e w1 ⟨rfl, hw1⟩
    rw [hw1]
    clear hw1 w1
    go_wp2_with fail
    go_ret2
    exact ⟨rfl, rfl⟩

set_option maxHeartbeats 1000000 in
theorem nob_get (P : Option Addr) (s : ByteArray) (w : World) (h : Nob w P) :
    Calls Try.prog 27 #[.pointer P, .string s] w fun e w' => e = .returned (.tuple #[.string ⟨#[]⟩, .bool false]) ∧ w' = w := by
  rcases h with rfl | ⟨b, rfl, hb⟩
  · skip
    have HR := Lib.hid (nob_room none w (.inl rfl))
    go_enter Try.func27, Try.ntmps27
    go_wp2_with fail
    refine (HR.out).mono ?_
    rintro e w1 ⟨rfl, hw1⟩
    rw [hw1]
    clear hw1 w1
    go_wp2_with fail
    go_ret2
    exact ⟨rfl, rfl⟩
  · have k0 : w.cell? ⟨b, 0, none⟩ = some (.int .i64 0) := hb.cell 0
    have k1 : w.cell? ⟨b, 1, none⟩ = some (.map none) := hb.cell 1
    have k4 : w.cell? ⟨b, 4, none⟩ = some (.int .i64 0) := hb.cell 4
    have k5 : w.cell? ⟨b, 5, none⟩ = some (.int .i64 0) := hb.cell 5
    have HR := Lib.hid (nob_room (some ⟨b, 0, none⟩) w (.inr ⟨b, rfl, hb⟩))
    clear hb k0 k1 k4 k5
    go_enter Try.func27, Try.ntmps27
    go_wp2_with fail
    refine (HR.out).mono ?_
    rintro e w1 ⟨rfl, hw1⟩
    rw [hw1]
    clear hw1 w1
    go_wp2_with fail
    go_ret2
    exact ⟨rfl, rfl⟩

set_option maxHeartbeats 1000000 in
theorem nob_names (P : Option Addr) (w : World) (h : Nob w P) :
    Calls Try.prog 31 #[.pointer P] w fun e w' => e = .returned (.slice none 0 0) ∧ w' = w := by
  rcases h with rfl | ⟨b, rfl, hb⟩
  · skip
    have HR := Lib.hid (nob_room none w (.inl rfl))
    go_enter Try.func31, Try.ntmps31
    go_wp2_with fail
    refine (HR.out).mono ?_
    rintro e w1 ⟨rfl, hw1⟩
    rw [hw1]
    clear hw1 w1
    go_wp2_with fail
    go_ret
    exact ⟨rfl, rfl⟩
  · have k0 : w.cell? ⟨b, 0, none⟩ = some (.int .i64 0) := hb.cell 0
    have k1 : w.cell? ⟨b, 1, none⟩ = some (.map none) := hb.cell 1
    have k4 : w.cell? ⟨b, 4, none⟩ = some (.int .i64 0) := hb.cell 4
    have k5 : w.cell? ⟨b, 5, none⟩ = some (.int .i64 0) := hb.cell 5
    have HR := Lib.hid (nob_room (some ⟨b, 0, none⟩) w (.inr ⟨b, rfl, hb⟩))
    clear hb k0 k1 k4 k5
    go_enter Try.func31, Try.ntmps31
    go_wp2_with fail
    refine (HR.out).mono ?_
    rintro e w1 ⟨rfl, hw1⟩
    rw [hw1]
    clear hw1 w1
    go_wp2_with fail
    go_ret
    exact ⟨rfl, rfl⟩

set_option maxHeartbeats 1000000 in
theorem nob_shrink (P : Option Addr) (r : Int) (w : World) (h : Nob w P) :
    Calls Try.prog 34 #[.pointer P, .int .i64 r] w fun e w' => e = .returned (.slice none 0 0) ∧ w' = w := by
  rcases h with rfl | ⟨b, rfl, hb⟩
  · skip
    have HR := Lib.hid (nob_room none w (.inl rfl))
    go_enter Try.func34, Try.ntmps34
    go_wp2_with fail
    refine (HR.out).mono ?_
    rintro e w1 ⟨rfl, hw1⟩
    rw [hw1]
    clear hw1 w1
    go_wp2_with fail
    go_ret
    exact ⟨rfl, rfl⟩
  · have k0 : w.cell? ⟨b, 0, none⟩ = some (.int .i64 0) := hb.cell 0
    have k1 : w.cell? ⟨b, 1, none⟩ = some (.map none) := hb.cell 1
    have k4 : w.cell? ⟨b, 4, none⟩ = some (.int .i64 0) := hb.cell 4
    have k5 : w.cell? ⟨b, 5, none⟩ = some (.int .i64 0) := hb.cell 5
    have HR := Lib.hid (nob_room (some ⟨b, 0, none⟩) w (.inr ⟨b, rfl, hb⟩))
    clear hb k0 k1 k4 k5
    go_enter Try.func34, Try.ntmps34
    go_wp2_with fail
    refine (HR.out).mono ?_
    rintro e w1 ⟨rfl, hw1⟩
    rw [hw1]
    clear hw1 w1
    go_wp2_with fail
    go_ret
    exact ⟨rfl, rfl⟩

set_option maxHeartbeats 1000000 in
theorem nob_find (P : Option Addr) (s : ByteArray) (w : World) (h : Nob w P) (hs : s.size ≤ maxLen) :
    Calls Try.prog 51 #[.pointer P, .string s] w fun e w' => e = .returned (.tuple #[.int .i64 0, .bool false]) ∧ w' = w := by
  rcases h with rfl | ⟨b, rfl, hb⟩
  · skip
    clear hs
    go_enter Try.func51, Try.ntmps51
    go_wp2_with fail
    go_ret2
    exact ⟨rfl, rfl⟩
  · have k0 : w.cell? ⟨b, 0, none⟩ = some (.int .i64 0) := hb.cell 0
    have k1 : w.cell? ⟨b, 1, none⟩ = some (.map none) := hb.cell 1
    have k4 : w.cell? ⟨b, 4, none⟩ = some (.int .i64 0) := hb.cell 4
    have k5 : w.cell? ⟨b, 5, none⟩ = some (.int .i64 0) := hb.cell 5
    have hl := nil_look s hs
    clear hb k0 k4 k5 hs
    go_enter Try.func51, Try.ntmps51
    go_wp2_with fail
    go_ret2
    exact ⟨rfl, rfl⟩

set_option maxHeartbeats 1000000 in
theorem nob_peek (P : Option Addr) (s : ByteArray) (w : World) (h : Nob w P) (hs : s.size ≤ maxLen) :
    Calls Try.prog 28 #[.pointer P, .string s] w fun e w' => e = .returned (.tuple #[.string ⟨#[]⟩, .bool false]) ∧ w' = w := by
  rcases h with rfl | ⟨b, rfl, hb⟩
  · skip
    have HF := Lib.hid (nob_find none s w (.inl rfl) hs)
    clear hs
    go_enter Try.func28, Try.ntmps28
    go_wp2_with fail
    refine (HF.out).mono ?_
    rintro e w1 ⟨rfl, hw1⟩
    rw [hw1]
    clear hw1 w1
    go_wp2_with fail
    go_ret2
    exact ⟨rfl, rfl⟩
  · have k0 : w.cell? ⟨b, 0, none⟩ = some (.int .i64 0) := hb.cell 0
    have k1 : w.cell? ⟨b, 1, none⟩ = some (.map none) := hb.cell 1
    have k4 : w.cell? ⟨b, 4, none⟩ = some (.int .i64 0) := hb.cell 4
    have k5 : w.cell? ⟨b, 5, none⟩ = some (.int .i64 0) := hb.cell 5
    have HF := Lib.hid (nob_find (some ⟨b, 0, none⟩) s w (.inr ⟨b, rfl, hb⟩) hs)
    clear hb k0 k1 k4 k5 hs
    go_enter Try.func28, Try.ntmps28
    go_wp2_with fail
    refine (HF.out).mono ?_
    rintro e w1 ⟨rfl, hw1⟩
    rw [hw1]
    clear hw1 w1
    go_wp2_with fail
    go_ret2
    exact ⟨rfl, rfl⟩

set_option maxHeartbeats 1000000 in
theorem nob_drop (P : Option Addr) (s : ByteArray) (w : World) (h : Nob w P) (hs : s.size ≤ maxLen) :
    Calls Try.prog 30 #[.pointer P, .string s] w fun e w' => e = .returned (.bool false) ∧ w' = w := by
  rcases h with rfl | ⟨b, rfl, hb⟩
  · skip
    have HF := Lib.hid (nob_find none s w (.inl rfl) hs)
    clear hs
    go_enter Try.func30, Try.ntmps30
    go_wp2_with fail
    refine (HF.out).mono ?_
    rintro e w1 ⟨rfl, hw1⟩
    rw [hw1]
    clear hw1 w1
    go_wp2_with fail
    go_ret
    exact ⟨rfl, rfl⟩
  · have k0 : w.cell? ⟨b, 0, none⟩ = some (.int .i64 0) := hb.cell 0
    have k1 : w.cell? ⟨b, 1, none⟩ = some (.map none) := hb.cell 1
    have k4 : w.cell? ⟨b, 4, none⟩ = some (.int .i64 0) := hb.cell 4
    have k5 : w.cell? ⟨b, 5, none⟩ = some (.int .i64 0) := hb.cell 5
    have HF := Lib.hid (nob_find (some ⟨b, 0, none⟩) s w (.inr ⟨b, rfl, hb⟩) hs)
    clear hb k0 k1 k4 k5 hs
    go_enter Try.func30, Try.ntmps30
    go_wp2_with fail
    refine (HF.out).mono ?_
    rintro e w1 ⟨rfl, hw1⟩
    rw [hw1]
    clear hw1 w1
    go_wp2_with fail
    go_ret
    exact ⟨rfl, rfl⟩

set_option maxHeartbeats 1000000 in
theorem nob_len (P : Option Addr) (w : World) (h : Nob w P) :
    Calls Try.prog 32 #[.pointer P] w fun e w' => e = .returned (.int .i64 0) ∧ w' = w := by
  rcases h with rfl | ⟨b, rfl, hb⟩
  · skip
    go_enter Try.func32, Try.ntmps32
    go_wp2_with fail
    go_ret
    exact ⟨rfl, rfl⟩
  · have k0 : w.cell? ⟨b, 0, none⟩ = some (.int .i64 0) := hb.cell 0
    have k1 : w.cell? ⟨b, 1, none⟩ = some (.map none) := hb.cell 1
    have k4 : w.cell? ⟨b, 4, none⟩ = some (.int .i64 0) := hb.cell 4
    have k5 : w.cell? ⟨b, 5, none⟩ = some (.int .i64 0) := hb.cell 5
    have hl := nil_len
    clear hb k0 k4 k5
    go_enter Try.func32, Try.ntmps32
    go_wp2_with fail
    go_ret
    exact ⟨rfl, rfl⟩

set_option maxHeartbeats 1000000 in
theorem nob_counts (P : Option Addr) (w : World) (h : Nob w P) :
    Calls Try.prog 29 #[.pointer P] w fun e w' => e = .returned (.tuple #[.int .i64 0, .int .i64 0]) ∧ ∃ n, w' = w.drewN n := by
  rcases h with rfl | ⟨b, rfl, hb⟩
  · skip
    go_enter Try.func29, Try.ntmps29
    go_wp2_with fail
    go_ret2
    exact ⟨rfl, 0, rfl⟩
  · have k0 : w.cell? ⟨b, 0, none⟩ = some (.int .i64 0) := hb.cell 0
    have k1 : w.cell? ⟨b, 1, none⟩ = some (.map none) := hb.cell 1
    have k4 : w.cell? ⟨b, 4, none⟩ = some (.int .i64 0) := hb.cell 4
    have k5 : w.cell? ⟨b, 5, none⟩ = some (.int .i64 0) := hb.cell 5
    clear hb k0 k1
    go_enter Try.func29, Try.ntmps29
    go_wp2_with fail
    go_quiet (fail)
    go_wp2_with fail
    go_ret2
    exact ⟨rfl, nq, rfl⟩

set_option maxRecDepth 100000 in
set_option maxHeartbeats 8000000 in
theorem stickyNobody_walk (s : ByteArray) (r : Int) (hs : s.size ≤ maxLen) (w : World) :
    Calls Try.prog 6 #[.string s, .int .i64 r] w fun e w' => e = .returned (.bool true) ∧ Below w.heap.size w w' := by
  have HS := Lib.hid hs
  clear hs
  go_enter Try.func6, Try.ntmps6
  go_wp2_with fail
  have HZ : Hid (Blk ((w.alloc (.cells zeroTop 55)).alloc (.cells #[.pointer none, .pointer (some ⟨w.heap.size, 0, none⟩)] 56)) w.heap.size 55 zeroTop) := (Blk.new w 55 zeroTop).alloc _
  have HB : Hid (Below w.heap.size w ((w.alloc (.cells zeroTop 55)).alloc (.cells #[.pointer none, .pointer (some ⟨w.heap.size, 0, none⟩)] 56))) := ((Below.refl _ _).alloc (Nat.le_refl _) _).alloc (by simp) _
  have c0 : ((w.alloc (.cells zeroTop 55)).alloc (.cells #[.pointer none, .pointer (some ⟨w.heap.size, 0, none⟩)] 56)).heap[w.heap.size + 1]? = some (.cells #[.pointer none, .pointer (some ⟨w.heap.size, 0, none⟩)] 56) := by have h := heap_alloc_new (w.alloc (.cells zeroTop 55)) (.cells #[.pointer none, .pointer (some ⟨w.heap.size, 0, none⟩)] 56); simpa using h
  have HC : Hid (Blk ((w.alloc (.cells zeroTop 55)).alloc (.cells #[.pointer none, .pointer (some ⟨w.heap.size, 0, none⟩)] 56)) (w.heap.size + 1) 56 #[.pointer none, .pointer (some ⟨w.heap.size, 0, none⟩)]) := c0
  clear c0
  go_loopw [8, 9] (fun s8 s9 wr => ∃ k : Nat, s8 = .int .i64 k ∧ k ≤ 2 ∧ Blk wr w.heap.size 55 zeroTop ∧ Blk wr (w.heap.size + 1) 56 #[.pointer none, .pointer (some ⟨w.heap.size, 0, none⟩)] ∧ Below w.heap.size w wr) (fun s8 _ _ => 2 - (intOf s8).toNat)
  case atStart => exact ⟨0, rfl, by omega, HZ.out, HC.out, HB.out⟩
  case round =>
    obtain ⟨k, rfl, hk, hz, hc, hb⟩ := hrel
    obtain ⟨wz, rfl⟩ : ∃ wz : World, wz = wr := ⟨_, rfl⟩
    clear HZ HB HC
    have HB := Lib.hid hb
    have HZ := Lib.hid hz
    have HC := Lib.hid hc
    have c0 : wz.cell? ⟨w.heap.size + 1, 0, none⟩ = some (.pointer none) := hc.cell 0
    have c1 : wz.cell? ⟨w.heap.size + 1, 1, none⟩ = some (.pointer (some ⟨w.heap.size, 0, none⟩)) := hc.cell 1
    clear hz hc hb
    rcases Nat.lt_or_ge k 2 with hlt | hge
    · rcases Nat.lt_or_ge k 1 with h0 | h1
      · obtain rfl : k = 0 := by omega
        have HN : Hid (Nob wz none) := .inl rfl
        go_wp2_with fail
        refine (nob_put none s ⟨#[120]⟩ _ HN.out).mono ?_
        rintro e w1 ⟨rfl, hw1⟩
        rw [hw1]
        clear hw1 w1
        go_wp2_with fail
        refine (nob_get none s _ HN.out).mono ?_
        rintro e w1 ⟨rfl, hw1⟩
        rw [hw1]
        clear hw1 w1
        go_wp2_with fail
        refine (nob_peek none s _ HN.out HS.out).mono ?_
        rintro e w1 ⟨rfl, hw1⟩
        rw [hw1]
        clear hw1 w1
        go_wp2_with fail
        refine (nob_counts none _ HN.out).mono ?_
        rintro e w1 ⟨rfl, q, hw1⟩
        rw [hw1]
        replace HN := Lib.hid (HN.out.drewN q)
        replace HB := Lib.hid (below_drewN HB.out q)
        skip
        clear hw1 w1
        go_wp2_with fail
        refine (nob_drop none s _ HN.out HS.out).mono ?_
        rintro e w1 ⟨rfl, hw1⟩
        rw [hw1]
        clear hw1 w1
        go_wp2_with fail
        refine (nob_names none _ HN.out).mono ?_
        rintro e w1 ⟨rfl, hw1⟩
        rw [hw1]
        clear hw1 w1
        go_wp2_with fail
        refine (nob_len none _ HN.out).mono ?_
        rintro e w1 ⟨rfl, hw1⟩
        rw [hw1]
        clear hw1 w1
        go_wp2_with fail
        refine (nob_room none _ HN.out).mono ?_
        rintro e w1 ⟨rfl, hw1⟩
        rw [hw1]
        clear hw1 w1
        go_wp2_with fail
        refine (nob_shrink none r _ HN.out).mono ?_
        rintro e w1 ⟨rfl, hw1⟩
        rw [hw1]
        clear hw1 w1
        go_wp2_with fail
        go_roundw
        case rel => exact ⟨1, rfl, by omega, HZ.out.drewN _, HC.out.drewN _, HB.out⟩
        case measure => simp [intOf]
      · obtain rfl : k = 1 := by omega
        have HN : Hid (Nob wz (some ⟨w.heap.size, 0, none⟩)) := .inr ⟨_, rfl, HZ.out⟩
        go_wp2_with fail
        refine (nob_put (some ⟨w.heap.size, 0, none⟩) s ⟨#[120]⟩ _ HN.out).mono ?_
        rintro e w1 ⟨rfl, hw1⟩
        rw [hw1]
        clear hw1 w1
        go_wp2_with fail
        refine (nob_get (some ⟨w.heap.size, 0, none⟩) s _ HN.out).mono ?_
        rintro e w1 ⟨rfl, hw1⟩
        rw [hw1]
        clear hw1 w1
        go_wp2_with fail
        refine (nob_peek (some ⟨w.heap.size, 0, none⟩) s _ HN.out HS.out).mono ?_
        rintro e w1 ⟨rfl, hw1⟩
        rw [hw1]
        clear hw1 w1
        go_wp2_with fail
        refine (nob_counts (some ⟨w.heap.size, 0, none⟩) _ HN.out).mono ?_
        rintro e w1 ⟨rfl, q, hw1⟩
        rw [hw1]
        replace HN := Lib.hid (HN.out.drewN q)
        replace HB := Lib.hid (below_drewN HB.out q)
        skip
        clear hw1 w1
        go_wp2_with fail
        refine (nob_drop (some ⟨w.heap.size, 0, none⟩) s _ HN.out HS.out).mono ?_
        rintro e w1 ⟨rfl, hw1⟩
        rw [hw1]
        clear hw1 w1
        go_wp2_with fail
        refine (nob_names (some ⟨w.heap.size, 0, none⟩) _ HN.out).mono ?_
        rintro e w1 ⟨rfl, hw1⟩
        rw [hw1]
        clear hw1 w1
        go_wp2_with fail
        refine (nob_len (some ⟨w.heap.size, 0, none⟩) _ HN.out).mono ?_
        rintro e w1 ⟨rfl, hw1⟩
        rw [hw1]
        clear hw1 w1
        go_wp2_with fail
        refine (nob_room (some ⟨w.heap.size, 0, none⟩) _ HN.out).mono ?_
        rintro e w1 ⟨rfl, hw1⟩
        rw [hw1]
        clear hw1 w1
        go_wp2_with fail
        refine (nob_shrink (some ⟨w.heap.size, 0, none⟩) r _ HN.out).mono ?_
        rintro e w1 ⟨rfl, hw1⟩
        rw [hw1]
        clear hw1 w1
        go_wp2_with fail
        go_roundw
        case rel => exact ⟨2, rfl, by omega, HZ.out.drewN _, HC.out.drewN _, HB.out⟩
        case measure => simp [intOf]
    · obtain rfl : k = 2 := by omega
      go_wp2_with fail
      refine (awake_any wz).mono ?_
      rintro e w6 ⟨rfl, hb6⟩
      have HB6 := Lib.hid (HB.out.trans (hb6.mono HB.out.size))
      clear hb6
      go_wp2_with fail
      go_ret
      exact ⟨rfl, HB6.out⟩
end Go.Proofs.Ytnipmhidiiondaa
