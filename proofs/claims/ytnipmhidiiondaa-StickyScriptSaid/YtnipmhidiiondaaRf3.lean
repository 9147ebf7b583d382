/- The document's cache: what a step leaves; contracts of Peek and Drop. -/
import Derived.Test.YtnipmhidiiondaaRf2
namespace Go.Proofs.Ytnipmhidiiondaa
open Go.RowKit Go.Maps

/-- What a step of the document's cache leaves: no block but its own struct has turned. -/
def KeepsR (w : World) (g : Nat) (AL : Option Addr) (A' : Abs) (w' : World) : Prop := ∃ AL' cap', RR w' g A' AL' cap' ∧ Chg (fun b => b = g) w w' ∧ ∀ a', AL' = some a' → (∃ a, AL = some a ∧ a.block = a'.block) ∨ w.heap.size ≤ a'.block
section
variable {w w1 w' : World} {g cap : Nat} {A A' : Abs} {AL : Option Addr}
theorem RR.below (h : RR w g A AL cap) (hb : Below w.heap.size w w') : RR w' g A AL cap := ⟨h.top.below hb h.top.lt, h.rd.below hb, h.cp, h.ne, fun a ha => Nat.lt_of_lt_of_le (h.lt a ha) hb.size⟩
theorem KeepsR.refl (h : RR w g A AL cap) : KeepsR w g AL A w := ⟨AL, cap, h, Chg.refl _ w, fun a ha => .inl ⟨a, ha, rfl⟩⟩
/-- The list is another one, in new memory. -/
theorem RR.newL (h : RR w g A AL cap) (hb : Below w.heap.size w w1) {A2 : Option Addr} {c2 : Nat} {L : List Ent} (hr : RdE w1 A2 L) (hc : L.length ≤ c2 ∧ c2 ≤ 9223372036854775807) (hn : ∀ a, A2 = some a → w.heap.size ≤ a.block ∧ a.block < w1.heap.size) :
    KeepsR w g AL { A with L := L } (w1.setCell ⟨g, 1, none⟩ (.slice A2 L.length c2)) := by
  have hne : ∀ a, A2 = some a → a.block ≠ g := fun a ha => by have := (hn a ha).1; have := h.top.lt; omega
  refine ⟨A2, c2, ⟨?_, ?_, hc, hne, fun a ha => by have := (hn a ha).2; simpa [World.setCell] using this⟩, ?_, fun a ha => .inr (hn a ha).1⟩
  · have := (h.top.below hb h.top.lt).set_ 1 (.slice A2 L.length c2)
    exact this
  · exact hr.keep (by simp [World.setCell]) (fun p hp _ => World.cell?_setCell_other w1 _ p _ (fun e => by
      obtain ⟨a, ha, hb2⟩ := hp
      exact hne a ha (by rw [hb2, ← e])))
  · exact (Chg.of_below (T := fun b => b = g) hb).setCell (p := ⟨g, 1, none⟩) rfl _
end
set_option maxHeartbeats 1000000 in
theorem peek_ref (g : Nat) (A : Abs) (AL : Option Addr) (cap : Nat) (s : ByteArray) (w : World) (h : RR w g A AL cap) (hnd : (A.L.map (·.1)).Nodup) (hl : A.L.length ≤ 4096) :
    Calls Try.prog 19 #[.pointer (some ⟨g, 0, none⟩), .string s] w fun e w' => e = .returned (.tuple #[.int .i64 ((lk A.L s).getD 0), .bool (lk A.L s).isSome]) ∧ w' = w := by
  have HF := Lib.hid (find_ref g A AL cap s w h hl)
  obtain ⟨n, hn⟩ : ∃ n, n = A.L.length := ⟨_, rfl⟩
  have k1 : w.cell? ⟨g, 1, none⟩ = some (.slice AL n cap) := by rw [hn]; exact h.top.cell 1
  have HN := Lib.hid hn
  have HR := Lib.hid (And.intro h hnd)
  clear hn h hnd hl
  go_enter Try.func19, Try.ntmps19
  go_wp2_with fail
  refine HF.out.mono ?_
  rintro e w1 ⟨⟨z, rfl, hz⟩, hw1⟩
  rw [hw1]
  clear hw1 w1
  rcases hz with ⟨rfl, hz⟩ | ⟨l, v, r, hL, rfl⟩
  · have HZ := Lib.hid hz
    clear hz
    go_wp2_with fail
    go_ret2
    exact ⟨by rw [HZ.out]; rfl, rfl⟩
  · have hlk : lk A.L s = some v := by rw [hL]; exact lk_split (x := (s, v)) (by rw [← hL]; exact HR.out.2)
    have HZ := Lib.hid hlk
    have hx : A.L[l.length]? = some (s, v) := by rw [hL]; simp
    obtain ⟨b, o, rfl, hb, hat⟩ : ∃ b off, AL = some ⟨b, off, none⟩ ∧ b < w.heap.size ∧ ∀ k x, A.L[k]? = some x → w.cell? ⟨b, off + k * 2, none⟩ = some (.string x.1) ∧ w.cell? ⟨b, off + k * 2 + 1, none⟩ = some (.int .i64 x.2) := HR.out.1.rd.resolve_left (fun h => by rw [h] at hx; cases hx)
    have hin : l.length < n := by rw [HN.out]; exact (List.getElem?_eq_some_iff.1 hx).1
    obtain ⟨i, hi⟩ : ∃ i, i = l.length := ⟨_, rfl⟩
    rw [← hi] at hx hin ⊢
    obtain ⟨c0, c1⟩ := hat i _ hx
    dsimp only at c0 c1
    have hi0 : (0 : Int) ≤ (i : Int) := by omega
    have hin2 : (i : Int) < (n : Int) := by omega
    have hd : decide ((i : Int) < 0) = false := decide_eq_false (by omega)
    clear hat hx hlk hL hi hin
    go_wp2_with fail
    go_ret2
    exact ⟨by rw [HZ.out]; rfl, rfl⟩
set_option maxHeartbeats 1000000 in
theorem drop_ref (g : Nat) (A : Abs) (AL : Option Addr) (cap : Nat) (s : ByteArray) (w : World) (h : RR w g A AL cap) (hnd : (A.L.map (·.1)).Nodup) (hl : A.L.length ≤ 4096) :
    Calls Try.prog 21 #[.pointer (some ⟨g, 0, none⟩), .string s] w fun e w' => e = .returned (.bool (lk A.L s).isSome) ∧ KeepsR w g AL { A with L := rm A.L s } w' := by
  have HF := Lib.hid (find_ref g A AL cap s w h hl)
  have HR := Lib.hid (And.intro h (And.intro hnd hl))
  clear h hnd hl
  go_enter Try.func21, Try.ntmps21
  go_wp2_with fail
  refine HF.out.mono ?_
  rintro e w1 ⟨⟨z, rfl, hz⟩, hw1⟩
  rw [hw1]
  clear hw1 w1
  rcases hz with ⟨rfl, hz⟩ | ⟨l, v, r, hL, rfl⟩
  · have HZ := Lib.hid hz
    clear hz
    go_wp2_with fail
    go_ret
    exact ⟨by rw [HZ.out]; rfl, by rw [rm_none (lk_none_iff HZ.out)]; exact KeepsR.refl HR.out.1⟩
  · have hnd2 : ((l ++ (s, v) :: r).map (·.1)).Nodup := by rw [← hL]; exact HR.out.2.1
    have hlk : lk A.L s = some v := by rw [hL]; exact lk_split (x := (s, v)) hnd2
    have HRM : Hid (rm A.L s = l ++ r) := by rw [hL]; exact rm_split (x := (s, v)) hnd2
    have HW := Lib.hid (without_ref g A AL cap l r (s, v) w HR.out.1 hL HR.out.2.2)
    have HZ := Lib.hid hlk
    obtain ⟨i, hi⟩ : ∃ i, i = l.length := ⟨_, rfl⟩
    rw [← hi] at HW ⊢
    have hd : decide ((i : Int) < 0) = false := decide_eq_false (by omega)
    clear hnd2 hlk hL hi
    go_wp2_with fail
    refine HW.out.mono ?_
    rintro e w2 ⟨A2, c2, rfl, hr2, hc2, hn2, hb2⟩
    have HK := Lib.hid (HR.out.1.newL hb2 hr2 hc2 hn2)
    have HT := Lib.hid (HR.out.1.below hb2).top
    obtain ⟨n2, hn2'⟩ : ∃ n2, n2 = (l ++ r).length := ⟨_, rfl⟩
    rw [← hn2'] at HK ⊢
    clear hr2 hc2 hn2 hb2 hn2'
    have k1 : w2.cell? ⟨g, 1, none⟩ = some (.slice AL A.L.length cap) := HT.out.cell 1
    have f1 : w2.frozen? ⟨g, 1, none⟩ = false := HT.out.frozen 1
    go_wp2_with fail
    go_ret
    exact ⟨by rw [HZ.out]; rfl, by rw [HRM.out]; exact HK.out⟩
end Go.Proofs.Ytnipmhidiiondaa
