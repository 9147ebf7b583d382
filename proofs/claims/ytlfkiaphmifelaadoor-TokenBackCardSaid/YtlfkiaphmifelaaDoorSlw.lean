/- TokenSpells's walk: for every input the law returns true, and what came in stands as before. -/
import Derived.Outline
import Derived.Deep.DeepCutAuto
import Derived.Test.YtlfkiaphmifelaaDoorRsp
import Derived.Test.YtlfkiaphmifelaaDoorWak
namespace Go.Proofs.YtlfkiaphmifelaaDoor
open Go.RowKit

def zk (x : Tz) : Gk := ⟨(x.kind : Nat), x.text, x.int, x.at_⟩
theorem RdZ.rd4 {w : World} {A : Option Addr} {l : List Tz} (h : RdZ w A l) : Rd4 w A (l.map zk) := by
  rcases h with h | ⟨b, off, rfl, hb, hat⟩
  · exact .inl (by rw [h]; rfl)
  · refine .inr ⟨b, off, rfl, fun k g hg => ?_⟩
    rw [List.getElem?_map] at hg
    cases hx : l[k]? with
    | none => rw [hx] at hg; cases hg
    | some x =>
      rw [hx] at hg
      have e : zk x = g := by simpa using hg
      subst e
      exact ⟨hat k x hx 0 _ rfl, hat k x hx 1 _ rfl, hat k x hx 2 _ rfl, hat k x hx 3 _ rfl⟩
set_option maxRecDepth 100000 in
set_option maxHeartbeats 8000000 in
theorem spells_walk (A : Option Addr) (c : Nat) (l : List Tz) (w : World) (hrd : RdZ w A l) (hlen : l.length ≤ 9223372036854775807) (hok : ∀ x ∈ l, TzOk x) (htab : Lib.TabIs Tryd.prog w "internal/strconv.uint64pow10" .u64 Lib.pow10Tab) :
    Calls Tryd.prog 3 #[.slice A l.length c] w fun e w' => e = .returned (.bool true) ∧ Below w.heap.size w w' := by
  obtain ⟨i0, hi0, hz0, hz1, hz2⟩ := info_parts Tryd.info32
  have HI := Lib.hid (And.intro hi0 (And.intro hz0 (And.intro hz1 hz2)))
  clear hi0 hz0 hz1 hz2
  obtain ⟨n, hn⟩ : ∃ n, n = l.length := ⟨_, rfl⟩
  have HH := Lib.hid (And.intro hrd (And.intro hn (And.intro hok htab)))
  rw [← hn] at hlen ⊢
  clear hrd hn hok htab
  by_cases hbig : 10000 < n
  · have db : decide ((n : Int) > 10000) = true := decide_eq_true (by omega)
    have db' : decide (10000 < n) = true := decide_eq_true hbig
    go_enter Tryd.func3, Tryd.ntmps3
    go_wp2_with fail
    refine (wakes_any w).mono ?_
    rintro e w1 ⟨rfl, hb1⟩
    have HB1 := Lib.hid hb1
    clear hb1
    go_wp2_with fail
    go_ret
    exact ⟨rfl, HB1.out⟩
  · have db : decide ((n : Int) > 10000) = false := decide_eq_false (by omega)
    have db' : decide (10000 < n) = false := decide_eq_false hbig
    obtain ⟨hi0, hz0, hz1, hz2⟩ := HI.out
    have HB0 : Hid (Below w.heap.size w (w.alloc (.cells #[] 33))) := Lib.hid ((Below.refl _ _).alloc (Nat.le_refl _) _)
    have HO0 : Hid ((w.alloc (.cells #[] 33)).ownsRow w.heap.size 33 4 (.slice (some ⟨w.heap.size, 0, none⟩) 0 0) 0 []) := Lib.hid (World.ownsRow_made w #[] 0 (Nat.le_refl _) (by unfold maxLen; omega) rfl)
    have HR0 : Hid (Reads (w.alloc (.cells #[] 33)) (w.alloc (.cells #[] 33)).heap.size 4 A n (rowOf zcell l)) := Lib.hid (by rw [HH.out.2.1]; exact (HH.out.1.below HB0.out).reads zcell_len)
    go_enter Tryd.func3, Tryd.ntmps3
    go_upto_region 4 with (at_builtin; generalize w.alloc (.cells #[] 33) = w0 at *; refine wpList_append_any _ rfl (.tmp 12) (.tmp 13) 22 rfl w.heap.size 33 i0 (.agg #[.int .u8 0, .string ⟨#[]⟩, .int .i64 0, .int .i64 0]) 4 40 Tryd.underlying22 hi0 hz0 hz1 hz2 rfl (by decide) (.slice (some ⟨w.heap.size, 0, none⟩) 0 0) 0 [] rfl HO0.out w0.heap.size A n c (rowOf zcell l) rfl HR0.out (rowOf_one zcell_one l) (by unfold maxLen; omega) (by omega) HB0.out.size ?_; intro v1 w1 ho1 hg1 _; obtain ⟨A1, c1, rfl, _⟩ := own_form ho1; have HO1 := Lib.hid ho1; have HG1 := Lib.hid hg1; clear ho1 hg1)
    have HB1 : Hid (Below w.heap.size w w1) := Lib.hid (HB0.out.grown HG1.out HB0.out.size (fun k hk => by
      have e : w.heap.size = k := by simpa [Value.ownBlock] using hk
      omega))
    have HRD : Hid (RdZ w1 A1 l ∧ RdZ w1 A l) := Lib.hid ⟨RdL.of_own zcell_len HO1.out (by rw [Nat.zero_add]; exact HH.out.2.1), HH.out.1.below HB1.out⟩
    obtain ⟨sl, hsl⟩ : ∃ z, z = spellL l := ⟨_, rfl⟩
    have HSP := Lib.hid (spell_any A1 c1 l w1 HRD.out.1 (by rw [← HH.out.2.1]; omega) HH.out.2.2.1 (tab_below HH.out.2.2.2 HB1.out))
    have HRS := Lib.hid (fun W (hW : Below w.heap.size w W) => rspell_any A c l W (HH.out.1.below hW) (by rw [← HH.out.2.1]; omega) HH.out.2.2.1)
    unfold SpellPost at HSP HRS
    rw [← hsl, ← HH.out.2.1] at HSP HRS
    obtain ⟨st, hst⟩ : ∃ z, z = (⟨sl.1.toArray⟩ : ByteArray) := ⟨_, rfl⟩
    obtain ⟨er, her⟩ : ∃ z, z = sl.2 := ⟨_, rfl⟩
    rw [← hst, ← her] at HSP HRS
    clear hst her hsl HG1 HO1 HR0 HO0 HB0
    go_wp2_with fail
    refine HSP.out.mono ?_
    rintro e w2 ⟨rfl, hb2⟩
    have HB2 : Hid (Below w.heap.size w w2 ∧ RdZ w2 A1 l) := Lib.hid ⟨HB1.out.trans (hb2.mono HB1.out.size), HRD.out.1.below hb2⟩
    have HRS2 := Lib.hid (HRS.out w2 HB2.out.1)
    clear hb2 HSP
    go_wp2_with fail
    refine HRS2.out.mono ?_
    rintro e w3 ⟨rfl, hb3⟩
    have HB3 : Hid (Below w.heap.size w w3 ∧ RdZ w3 A1 l ∧ RdZ w3 A l) := Lib.hid ⟨HB2.out.1.trans (hb3.mono HB2.out.1.size), HB2.out.2.below hb3, (HH.out.1.below HB2.out.1).below hb3⟩
    have HAL : Hid (Calls Tryd.prog 8 #[.slice A1 n c1, .slice A n c] w3 fun e w' => e = .returned (.bool true) ∧ ∃ n, w' = w3.drewN n) := Lib.hid (by
      have h := alike_any A1 A c1 c n (l.map zk) (l.map zk) w3 HB3.out.2.1.rd4 HB3.out.2.2.rd4 (by rw [List.length_map, HH.out.2.1]) (by rw [List.length_map, HH.out.2.1]) (by omega)
      rw [decide_eq_true rfl] at h
      exact h)
    clear hb3 HRS2
    go_wp2_with fail
    refine HAL.out.mono ?_
    rintro e w4 ⟨rfl, q, rfl⟩
    have HB4 : Hid (Below w.heap.size w (w3.drewN q)) := Lib.hid (below_drewN HB3.out.1 q)
    generalize w3.drewN q = w4 at *
    go_wp2_with fail
    refine (wakes_any w4).mono ?_
    rintro e w5 ⟨rfl, hb5⟩
    have HB5 := Lib.hid (HB4.out.trans (hb5.mono HB4.out.size))
    clear hb5
    go_wp2_with fail
    go_ret
    exact ⟨rfl, HB5.out⟩
end Go.Proofs.YtlfkiaphmifelaaDoor
