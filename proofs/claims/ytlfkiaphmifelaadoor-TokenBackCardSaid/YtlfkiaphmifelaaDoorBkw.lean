/- TokenBack's walk: for every input the law returns true, and what came in stands as before. -/
import Derived.Outline
import Derived.Deep.DeepCutAuto
import Derived.Test.YtlfkiaphmifelaaDoorBak
import Derived.Test.YtlfkiaphmifelaaDoorBar
import Derived.Test.YtlfkiaphmifelaaDoorSlw
namespace Go.Proofs.YtlfkiaphmifelaaDoor
open Go.RowKit

/-- A token that was read, as one that came in. -/
def zt (t : Tok) : Tz := ⟨t.kind, ⟨t.text.toArray⟩, t.int, t.place⟩
theorem tcells_zt (l : List Tok) : tcells l = rowOf zcell (l.map zt) := by
  unfold tcells rowOf
  rw [List.flatMap_map]
  rfl
theorem z0_zt {t : Tok} {x : Tz} (h : tk t = tz x) : z0 (zt t) = z0 x := by
  unfold tk tz at h
  simp only [Prod.mk.injEq] at h
  unfold z0 zt
  rw [h.1, h.2.1, h.2.2]
  rfl
theorem map_z0 : ∀ (ks : List Tok) (l : List Tz), ks.map tk = l.map tz → (ks.map zt).map z0 = l.map z0
  | [], [], _ => rfl
  | [], _ :: _, h => by cases h
  | _ :: _, [], h => by cases h
  | t :: ks, x :: l, h => by
    simp only [List.map_cons, List.cons.injEq] at h
    rw [List.map_cons, List.map_cons, List.map_cons, z0_zt h.1, map_z0 ks l h.2]
theorem spell_err (l : List Tz) : (spellL l).2 = 0 ∨ ((spellL l).1 = [] ∧ ((spellL l).2 = 3 ∨ (spellL l).2 = 2)) := by
  unfold spellL
  split
  · split
    · exact .inr ⟨rfl, .inr rfl⟩
    · exact .inl rfl
  · exact .inr ⟨rfl, .inl rfl⟩
set_option maxRecDepth 100000 in
set_option maxHeartbeats 8000000 in
theorem back_walk (A : Option Addr) (c : Nat) (l : List Tz) (w : World) (hrd : RdZ w A l) (hlen : l.length ≤ 9223372036854775807) (hok : ∀ x ∈ l, TzOk x) (htab : Lib.TabIs Tryd.prog w "internal/strconv.uint64pow10" .u64 Lib.pow10Tab) :
    Calls Tryd.prog 4 #[.slice A l.length c] w fun e w' => e = .returned (.bool true) ∧ Below w.heap.size w w' := by
  obtain ⟨n, hn⟩ : ∃ n, n = l.length := ⟨_, rfl⟩
  have HH := Lib.hid (And.intro hrd (And.intro hn (And.intro hok htab)))
  rw [← hn] at hlen ⊢
  clear hrd hn hok htab
  by_cases hbig : 10000 < n
  · have db : decide ((n : Int) > 10000) = true := decide_eq_true (by omega)
    have db' : decide (10000 < n) = true := decide_eq_true hbig
    go_enter Tryd.func4, Tryd.ntmps4
    go_wp2_with fail
    refine (wakes_any w).mono ?_
    rintro e w1 ⟨rfl, hb1⟩
    have HB1 := Lib.hid hb1
    clear hb1
    go_wp2_with fail
    go_ret
    exact ⟨rfl, HB1.out⟩
  · have db : decide ((n : Int) > 10000) = false := decide_eq_false (by omega)
    have db' : decide (10000 < n) = false := decide_eq_false hbig
    have HSP := Lib.hid (spell_any A c l w HH.out.1 (by rw [← HH.out.2.1]; omega) HH.out.2.2.1 HH.out.2.2.2)
    unfold SpellPost at HSP
    rw [← HH.out.2.1] at HSP
    obtain ⟨st, hst⟩ : ∃ z, z = (⟨(spellL l).1.toArray⟩ : ByteArray) := ⟨_, rfl⟩
    obtain ⟨er, her⟩ : ∃ z, z = (spellL l).2 := ⟨_, rfl⟩
    have HST := Lib.hid (And.intro hst her)
    rw [← hst, ← her] at HSP
    clear hst her
    go_enter Tryd.func4, Tryd.ntmps4
    go_wp2_with fail
    refine HSP.out.mono ?_
    rintro e w1 ⟨rfl, hb1⟩
    have HB1 : Hid (Below w.heap.size w w1) := Lib.hid hb1
    clear hb1 HSP
    by_cases he0 : er = 0
    · have ne0 : ((er : Int) != 0) = false := by simp [he0]
      have HBK := Lib.hid (back l (fun x hx => (HH.out.2.2.1 x hx).i.2) (by rw [← HST.out.2]; exact he0))
      obtain ⟨ks, hks⟩ : ∃ ks, srcL (spellL l).1 = (ks, 0, 0) ∧ ks.map tk = l.map tz ∧ (spellL l).1.length ≤ 16384 := HBK.out
      have HKS := Lib.hid hks
      clear HBK hks
      have hkn : ks.length = n := by
        have := congrArg List.length HKS.out.2.1
        rw [List.length_map, List.length_map] at this
        rw [this]; exact HH.out.2.1.symm
      have HKN := Lib.hid hkn
      have HAL : Hid (Calls Tryd.prog 9 #[.string st] w1 fun e w' => ∃ A c, e = .returned (.tuple #[.slice A n c, .int .i64 0, .int .i64 0]) ∧ RdZ w' A (ks.map zt) ∧ Below w1.heap.size w1 w') := Lib.hid (by
        have h := all_any (spellL l).1 (by have := HKS.out.2.2; omega) w1
        rw [HKS.out.1, ← HST.out.1] at h
        refine h.mono ?_
        rintro e w' ⟨A', c', rfl, ho, hb⟩
        refine ⟨A', c', by rw [← HKN.out]; rfl, ?_, hb⟩
        dsimp only at ho
        rw [tcells_zt] at ho
        exact RdL.of_own zcell_len ho (by rw [List.length_map]))
      clear hkn
      go_wp2_with fail
      refine HAL.out.mono ?_
      rintro e w2 ⟨A2, c2, rfl, hr2, hb2⟩
      have HB2 : Hid (Below w.heap.size w w2 ∧ RdZ w2 A2 (ks.map zt) ∧ RdZ w2 A l) := Lib.hid ⟨HB1.out.trans (hb2.mono HB1.out.size), hr2, HH.out.1.below (HB1.out.trans (hb2.mono HB1.out.size))⟩
      clear hr2 hb2 HAL HB1
      have HBA : Hid (Calls Tryd.prog 10 #[.slice A2 n c2] w2 fun e w' => ∃ A c, e = .returned (.slice A n c) ∧ RdZ w' A (l.map z0) ∧ Below w2.heap.size w2 w') := Lib.hid (by
        have h := bare_any A2 c2 (ks.map zt) w2 HB2.out.2.1 (by rw [List.length_map, HKN.out]; omega)
        unfold BarePost at h
        rw [map_z0 ks l HKS.out.2.1, List.length_map, HKN.out] at h
        exact h)
      go_wp2_with fail
      refine HBA.out.mono ?_
      rintro e w3 ⟨A3, c3, rfl, hr3, hb3⟩
      have HB3 : Hid (Below w.heap.size w w3 ∧ RdZ w3 A3 (l.map z0) ∧ RdZ w3 A l) := Lib.hid ⟨HB2.out.1.trans (hb3.mono HB2.out.1.size), hr3, HB2.out.2.2.below hb3⟩
      clear hr3 hb3 HBA HB2
      have HBA : Hid (Calls Tryd.prog 10 #[.slice A n c] w3 fun e w' => ∃ A c, e = .returned (.slice A n c) ∧ RdZ w' A (l.map z0) ∧ Below w3.heap.size w3 w') := Lib.hid (by
        have h := bare_any A c l w3 HB3.out.2.2 (by rw [← HH.out.2.1]; omega)
        unfold BarePost at h
        rw [← HH.out.2.1] at h
        exact h)
      go_wp2_with fail
      refine HBA.out.mono ?_
      rintro e w4 ⟨A4, c4, rfl, hr4, hb4⟩
      have HB4 : Hid (Below w.heap.size w w4 ∧ RdZ w4 A3 (l.map z0) ∧ RdZ w4 A4 (l.map z0)) := Lib.hid ⟨HB3.out.1.trans (hb4.mono HB3.out.1.size), HB3.out.2.1.below hb4, hr4⟩
      clear hr4 hb4 HBA HB3
      have HAL : Hid (Calls Tryd.prog 8 #[.slice A3 n c3, .slice A4 n c4] w4 fun e w' => e = .returned (.bool true) ∧ ∃ n, w' = w4.drewN n) := Lib.hid (by
        have h := alike_any A3 A4 c3 c4 n ((l.map z0).map zk) ((l.map z0).map zk) w4 HB4.out.2.1.rd4 HB4.out.2.2.rd4 (by rw [List.length_map, List.length_map, HH.out.2.1]) (by rw [List.length_map, List.length_map, HH.out.2.1]) (by omega)
        rw [decide_eq_true rfl] at h
        exact h)
      go_wp2_with fail
      refine HAL.out.mono ?_
      rintro e w5 ⟨rfl, q, rfl⟩
      have HB5 : Hid (Below w.heap.size w (w4.drewN q)) := Lib.hid (below_drewN HB4.out.1 q)
      clear HAL HB4
      generalize w4.drewN q = w5 at *
      go_wp2_with fail
      refine (wakes_any w5).mono ?_
      rintro e w6 ⟨rfl, hb6⟩
      have HB6 := Lib.hid (HB5.out.trans (hb6.mono HB5.out.size))
      clear hb6
      go_wp2_with fail
      go_ret
      exact ⟨rfl, HB6.out⟩
    · have ne0 : ((er : Int) != 0) = true := by simp; omega
      have HE := (spell_err l).resolve_left (fun h => he0 (HST.out.2.trans h))
      have hs0 : st = ⟨#[]⟩ := by rw [HST.out.1, HE.1]
      subst hs0
      have HWK : Hid (∀ W, Calls Tryd.prog 5 #[] W fun e w' => e = .returned (.bool true) ∧ Below W.heap.size W w') := Lib.hid wakes_any
      have hs1 : ((⟨#[]⟩ : ByteArray) == ⟨#[]⟩) = true := by decide
      rcases HE.2 with h3 | h2
      · have he3 : er = 3 := HST.out.2.trans h3
        subst he3
        clear HE h3 HST he0
        go_wp2_with fail
        refine (HWK.out w1).mono ?_
        rintro e w2 ⟨rfl, hb2⟩
        have HB2 := Lib.hid (HB1.out.trans (hb2.mono HB1.out.size))
        clear hb2
        go_wp2_with fail
        go_ret
        exact ⟨rfl, HB2.out⟩
      · have he3 : er = 2 := HST.out.2.trans h2
        subst he3
        clear HE h2 HST he0
        go_wp2_with fail
        refine (HWK.out w1).mono ?_
        rintro e w2 ⟨rfl, hb2⟩
        have HB2 := Lib.hid (HB1.out.trans (hb2.mono HB1.out.size))
        clear hb2
        go_wp2_with fail
        go_ret
        exact ⟨rfl, HB2.out⟩
end Go.Proofs.YtlfkiaphmifelaaDoor
