/- The document's cache: contract of Put. -/
import Derived.Deep.QuietTactic
import Derived.BigQuiet
import Derived.Test.YtnipmhidiiondaaRf3
namespace Go.Proofs.Ytnipmhidiiondaa
open Go.RowKit Go.Maps

section
variable {w w1 w' : World} {g cap : Nat} {A A' : Abs} {AL : Option Addr}
theorem RR.cutL (h : RR w g A AL cap) {n : Nat} (hn : n ≤ A.L.length) : RR (w.setCell ⟨g, 1, none⟩ (.slice AL n cap)) g { A with L := A.L.take n } AL cap ∧ Chg (fun b => b = g) w (w.setCell ⟨g, 1, none⟩ (.slice AL n cap)) := by
  have hl : (A.L.take n).length = n := by rw [List.length_take]; omega
  refine ⟨⟨?_, ?_, ?_, h.ne, fun a ha => by have := h.lt a ha; simpa [World.setCell] using this⟩, (Chg.refl (fun b => b = g) w).setCell (p := ⟨g, 1, none⟩) rfl _⟩
  · have := h.top.set_ 1 (.slice AL n cap)
    unfold rtop at this ⊢
    dsimp only
    rw [hl]
    exact this
  · exact (h.rd.take n).keep (by simp [World.setCell]) (fun p hp _ => World.cell?_setCell_other w _ p _ (fun e => by
      obtain ⟨a, ha, hb2⟩ := hp
      exact h.ne a ha (by rw [hb2, ← e])))
  · dsimp only; rw [hl]; exact ⟨Nat.le_trans hn h.cp.1, h.cp.2⟩
theorem KeepsR.from (hc : Chg (fun b => b = g) w w1) (k : KeepsR w1 g AL A' w') : KeepsR w g AL A' w' := by
  obtain ⟨AL', cap', k1, k2, k3⟩ := k
  exact ⟨AL', cap', k1, hc.trans k2, fun a ha => (k3 a ha).imp id (fun h => Nat.le_trans hc.size h)⟩
end
theorem last_at {L : List Ent} {m : Nat} (h : L.length = m + 1) : ∃ x, L[m]? = some x ∧ L.getLast? = some x := by
  refine ⟨L[m]'(by omega), List.getElem?_eq_getElem (by omega), ?_⟩
  rw [List.getLast?_eq_getElem?, show L.length - 1 = m by omega]
  exact List.getElem?_eq_getElem (by omega)
set_option maxHeartbeats 4000000 in
theorem put_ref (g : Nat) (A : Abs) (AL : Option Addr) (cap : Nat) (s : ByteArray) (v : Int) (w : World) (h : RR w g A AL cap) (hnd : (A.L.map (·.1)).Nodup) (hl : A.L.length ≤ A.room) (hr1 : 1 ≤ A.room) (hr2 : A.room ≤ 4096) :
    Calls Try.prog 16 #[.pointer (some ⟨g, 0, none⟩), .string s, .int .i64 v] w fun e w' => e = .returned (.tuple #[.string (goneL A.room A.L s).1, .bool (goneL A.room A.L s).2]) ∧ KeepsR w g AL (putA A s v) w' := by
  have HF := Lib.hid (find_ref g A AL cap s w h (by omega))
  have HR := Lib.hid (And.intro h (And.intro hnd (And.intro hl (And.intro hr1 hr2))))
  clear h hnd hl hr1 hr2
  go_enter Try.func16, Try.ntmps16
  go_wp2_with fail
  refine HF.out.mono ?_
  rintro e w1 ⟨⟨z, rfl, hz⟩, hw1⟩
  rw [hw1]
  clear hw1 w1
  rcases hz with ⟨rfl, hz⟩ | ⟨l, v0, r, hL, rfl⟩
  · have HZ := Lib.hid hz
    clear hz
    obtain ⟨n, hn⟩ : ∃ n, n = A.L.length := ⟨_, rfl⟩
    obtain ⟨rm, hrm⟩ : ∃ rm, rm = A.room := ⟨_, rfl⟩
    have k0 : w.cell? ⟨g, 0, none⟩ = some (.int .i64 (rm : Nat)) := by rw [hrm]; exact HR.out.1.top.cell 0
    have k1 : w.cell? ⟨g, 1, none⟩ = some (.slice AL n cap) := by rw [hn]; exact HR.out.1.top.cell 1
    have HN := Lib.hid (And.intro hn hrm)
    clear hn hrm
    by_cases hfull : n = rm
    · have hb : ((n : Int) == (rm : Int)) = true := by rw [beq_iff_eq]; omega
      have HFU := Lib.hid hfull
      have hr1 := HR.out.2.2.2.1
      rw [← HN.out.2] at hr1
      obtain ⟨m, hm⟩ : ∃ m, A.L.length = m + 1 := ⟨A.L.length - 1, by have := HN.out.1; omega⟩
      obtain ⟨x, hx, hlast⟩ := last_at hm
      obtain ⟨b, o, rfl, hbb, hat⟩ : ∃ b off, AL = some ⟨b, off, none⟩ ∧ b < w.heap.size ∧ ∀ k x, A.L[k]? = some x → w.cell? ⟨b, off + k * 2, none⟩ = some (.string x.1) ∧ w.cell? ⟨b, off + k * 2 + 1, none⟩ = some (.int .i64 x.2) := HR.out.1.rd.resolve_left (fun h => by rw [h] at hx; cases hx)
      have c0 := (hat m x hx).1
      have HX := Lib.hid (And.intro hm hlast)
      have hnm1 : (n : Int) - 1 = (m : Int) := by have := HN.out.1; omega
      have hm0 : (0 : Int) ≤ (m : Int) := by omega
      have hm1 : (m : Int) < (n : Int) := by omega
      have hm4 : m ≤ 4096 := by have := HR.out.2.2; omega
      have hmc : (m : Int) ≤ (cap : Int) := by have := HR.out.1.cp.1; omega
      clear hm hx hlast hat hbb hfull hr1
      go_wp2_with fail
      go_quiet (fail)
      obtain ⟨q1, rfl⟩ : ∃ q, q = nq := ⟨_, rfl⟩
      go_wp2_with fail
      go_quiet (fail)
      go_wp2_with fail
      have f1 : ((w.drewN q1).drewN nq).frozen? ⟨g, 1, none⟩ = false := HR.out.1.top.frozen 1
      have k1' : ((w.drewN q1).drewN nq).cell? ⟨g, 1, none⟩ = some (.slice (some ⟨b, o, none⟩) n cap) := k1
      have HBQ : Hid (Below w.heap.size w ((w.drewN q1).drewN nq)) := below_drewN (below_drewN (Below.refl _ _) q1) nq
      have hcut := (HR.out.1.below HBQ.out).cutL (n := m) (by have := HN.out.1; omega)
      have HC := Lib.hid (And.intro (hcut.1.below (Below.refl _ _).drew) (((Chg.of_below HBQ.out).trans hcut.2).trans (.of_below (Below.refl _ _).drew)))
      clear k1 k0 c0 hcut
      generalize (w.drewN q1).drewN nq = wq at *
      go_region
      generalize (wq.setCell ⟨g, 1, none⟩ (Value.slice (some ⟨b, o, none⟩) m cap)).drew = wz at *
      clear k1' f1
      have HT1 := Lib.hid HC.out.1.top
      have htl : (A.L.take m).length = m := by rw [List.length_take]; have := HN.out.1; omega
      have k1 : wz.cell? ⟨g, 1, none⟩ = some (.slice (some ⟨b, o, none⟩) m cap) := by have h := HT1.out.cell 1; unfold rtop at h; dsimp only at h; rw [htl] at h; exact h
      have HAH := Lib.hid (ahead_ref s v (some ⟨b, o, none⟩) m cap (A.L.take m) wz htl.symm HC.out.1.rd (by rw [htl]; omega))
      clear htl
      go_wp2_with fail
      refine HAH.out.mono ?_
      rintro e w2 ⟨A2, c2, rfl, hr2, hc2, hn2, hb2⟩
      have HK := Lib.hid (KeepsR.from HC.out.2 (HC.out.1.newL hb2 hr2 hc2 hn2))
      have HT := Lib.hid (HC.out.1.below hb2).top
      obtain ⟨n2, hn2'⟩ : ∃ n2, n2 = ((s, v) :: A.L.take m).length := ⟨_, rfl⟩
      rw [← hn2'] at HK ⊢
      clear hr2 hc2 hn2 hb2 hn2' k1
      have k2 : w2.cell? ⟨g, 1, none⟩ = some (.slice (some ⟨b, o, none⟩) (A.L.take m).length cap) := HT.out.cell 1
      have f2 : w2.frozen? ⟨g, 1, none⟩ = false := HT.out.frozen 1
      go_wp2_with fail
      go_ret2
      have hfu : A.L.length = A.room := by rw [← HN.out.1, ← HN.out.2]; exact HFU.out
      have e1 : goneL A.room A.L s = (x.1, true) := by unfold goneL; rw [HZ.out, if_neg (by decide), if_pos hfu, HX.out.2]; rfl
      have e2 : putA A s v = { A with L := (s, v) :: A.L.take m } := by unfold putA putL; rw [HZ.out, if_neg (by decide), if_pos hfu, List.dropLast_eq_take, show A.L.length - 1 = m by have := HX.out.1; omega]
      exact ⟨by rw [e1]; rfl, by rw [e2]; exact HK.out⟩
    · have hb : ((n : Int) == (rm : Int)) = false := by rw [beq_eq_false_iff_ne]; omega
      have HFU := Lib.hid hfull
      have HAH := Lib.hid (fun W (hW : RR W g A AL cap) => ahead_ref s v AL n cap A.L W HN.out.1 hW.rd (by have := HR.out.2.2; omega))
      clear hfull
      go_wp2_with fail
      go_quiet (fail)
      have HBQ : Hid (RR (w.drewN nq) g A AL cap ∧ Chg (fun b => b = g) w (w.drewN nq)) := ⟨HR.out.1.below (below_drewN (Below.refl _ _) nq), .of_below (below_drewN (Below.refl _ _) nq)⟩
      generalize w.drewN nq = wq at *
      clear k0 k1
      have k1 : wq.cell? ⟨g, 1, none⟩ = some (.slice AL n cap) := by rw [HN.out.1]; exact HBQ.out.1.top.cell 1
      go_wp2_with fail
      refine (HAH.out wq HBQ.out.1).mono ?_
      rintro e w2 ⟨A2, c2, rfl, hr2, hc2, hn2, hb2⟩
      have HK := Lib.hid (KeepsR.from HBQ.out.2 (HBQ.out.1.newL hb2 hr2 hc2 hn2))
      have HT := Lib.hid (HBQ.out.1.below hb2).top
      obtain ⟨n2, hn2'⟩ : ∃ n2, n2 = ((s, v) :: A.L).length := ⟨_, rfl⟩
      rw [← hn2'] at HK ⊢
      clear hr2 hc2 hn2 hb2 hn2' k1
      have k2 : w2.cell? ⟨g, 1, none⟩ = some (.slice AL A.L.length cap) := HT.out.cell 1
      have f2 : w2.frozen? ⟨g, 1, none⟩ = false := HT.out.frozen 1
      go_wp2_with fail
      go_ret2
      have hfu : ¬ A.L.length = A.room := by rw [← HN.out.1, ← HN.out.2]; exact HFU.out
      have e1 : goneL A.room A.L s = (⟨#[]⟩, false) := by unfold goneL; rw [HZ.out, if_neg (by decide), if_neg hfu]
      have e2 : putA A s v = { A with L := (s, v) :: A.L } := by unfold putA putL; rw [HZ.out, if_neg (by decide), if_neg hfu]
      exact ⟨by rw [e1]; rfl, by rw [e2]; exact HK.out⟩
  · have hnd2 : ((l ++ (s, v0) :: r).map (·.1)).Nodup := by rw [← hL]; exact HR.out.2.1
    have hlk : lk A.L s = some v0 := by rw [hL]; exact lk_split (x := (s, v0)) hnd2
    have HRM : Hid (rm A.L s = l ++ r) := by rw [hL]; exact rm_split (x := (s, v0)) hnd2
    have HW := Lib.hid (without_ref g A AL cap l r (s, v0) w HR.out.1 hL (by have := HR.out.2.2; omega))
    have HLL : Hid ((l ++ r).length ≤ 4096) := by have h1 := congrArg List.length hL; have h2 := HR.out.2.2; rw [List.length_append, List.length_cons] at h1; show (l ++ r).length ≤ 4096; rw [List.length_append]; omega
    have HZ := Lib.hid hlk
    obtain ⟨i, hi⟩ : ∃ i, i = l.length := ⟨_, rfl⟩
    rw [← hi] at HW ⊢
    have hd : decide ((0 : Int) ≤ (i : Int)) = true := decide_eq_true (by omega)
    clear hnd2 hlk hL hi
    go_wp2_with fail
    refine HW.out.mono ?_
    rintro e w2 ⟨A2, c2, rfl, hr2, hc2, hn2, hb2⟩
    have HRW := Lib.hid (And.intro (HR.out.1.below hb2) hb2)
    have HAH := Lib.hid (ahead_ref s v A2 (l ++ r).length c2 (l ++ r) w2 rfl hr2 (by have := HLL.out; omega))
    obtain ⟨n2, hn2'⟩ : ∃ n2, n2 = (l ++ r).length := ⟨_, rfl⟩
    rw [← hn2'] at HAH ⊢
    clear hr2 hc2 hn2 hb2 hn2'
    go_wp2_with fail
    refine HAH.out.mono ?_
    rintro e w3 ⟨A3, c3, rfl, hr3, hc3, hn3, hb3⟩
    have HK := Lib.hid (KeepsR.from (.of_below HRW.out.2) (HRW.out.1.newL hb3 hr3 hc3 hn3))
    have HT := Lib.hid (HRW.out.1.below hb3).top
    obtain ⟨n3, hn3'⟩ : ∃ n3, n3 = ((s, v) :: (l ++ r)).length := ⟨_, rfl⟩
    rw [← hn3'] at HK ⊢
    clear hr3 hc3 hn3 hb3 hn3'
    have k2 : w3.cell? ⟨g, 1, none⟩ = some (.slice AL A.L.length cap) := HT.out.cell 1
    have f2 : w3.frozen? ⟨g, 1, none⟩ = false := HT.out.frozen 1
    go_wp2_with fail
    go_ret2
    have e1 : goneL A.room A.L s = (⟨#[]⟩, false) := by unfold goneL; rw [HZ.out, if_pos (by rfl)]
    have e2 : putA A s v = { A with L := (s, v) :: (l ++ r) } := by unfold putA putL; rw [HZ.out, if_pos (by rfl), HRM.out]
    exact ⟨by rw [e1]; rfl, by rw [e2]; exact HK.out⟩
end Go.Proofs.Ytnipmhidiiondaa
