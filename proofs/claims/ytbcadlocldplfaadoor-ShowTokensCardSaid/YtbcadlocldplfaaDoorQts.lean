/- The walk of ShowTokens: it returns true. And what follows from it. -/
import Derived.Deep.MidRow
import Derived.Test.YtbcadlocldplfaaDoorQtr
import Derived.Test.YtbcadlocldplfaaDoorQt0
set_option maxHeartbeats 16000000
set_option linter.unusedSimpArgs false
set_option linter.unusedVariables false
namespace Go.Proofs.YtbcadlocldplfaaDoor
open Go.Proofs.Tryd
set_option maxRecDepth 100000
open Go.RowKit T8
abbrev noText : ByteArray := ⟨#[]⟩
theorem own_setCells {base n cap g : Nat} {e : TypeId} {size : Nat} : ∀ (cs : List Value) (o : Nat) (w : World) (xs : List Value), w.ownsRow base e size (.slice (some ⟨g, 0, none⟩) n cap) n xs -> ∃ xs', (w.setCells g o cs).ownsRow base e size (.slice (some ⟨g, 0, none⟩) n cap) n xs' ∧ Chg (fun k => k = g) w (w.setCells g o cs)
 | [], _, w, xs, h => ⟨xs, h, Chg.refl _ _⟩
 | v :: r, o, w, xs, h => by
  obtain ⟨h1, h2⟩ := h.stored o v
  obtain ⟨xs', h3, h4⟩ := own_setCells r (o + 1) _ _ h1
  exact ⟨xs', h3, (Chg.of_grown h2 (fun r hr => by injection hr with hr; exact hr.symm)).trans h4⟩
theorem own_there {w : World} {base n cap g i : Nat} {e : TypeId} {xs : List Value} (h : w.ownsRow base e 4 (.slice (some ⟨g, 0, none⟩) n cap) n xs) (hi : i < n) : w.there g (i * 4) 4 := fun j hj => by
 refine ⟨?_, World.ownsRow.frozenAt h _⟩
 have hl : xs.length = n * 4 := h.1
 have h1 := h.cells (g := g) rfl (i * 4 + j) _ (List.getElem?_eq_getElem (by omega))
 rw [addr_add, Nat.zero_add] at h1
 rw [h1]
 rfl
theorem one9 : (#[.int .u8 9, .string noText, .int .i64 0, .int .i64 0] : Array Value).all (·.oneCell') = true := by kernel_rfl
theorem showTokens_walk (A : Option Addr) (c : Nat) (l : List Tw) (w : World) (hok : ∀ x ∈ l, TwOk x) (hrw : RdW w A l) (hc : l.length <= c ∧ c <= 9223372036854775807) (htab : Tab w) :
 Calls prog 4 #[.slice A l.length c] w fun e w' => e = .returned (.bool true) ∧ Below w.heap.size w w' := by
 have hrd := rdl_rw hrw
 have HWK := zh (fun W (hb : Below w.heap.size w W) => wakes10_any W (T7.tab_below htab hb))
 obtain ⟨n, hn⟩ := ex l.length
 have hn9 : n <= 9223372036854775807 := by omega
 by_cases hbig : 5000 < n
 . have hd : decide ((5000 : Int) < (n : Int)) = true := dqt (by omega)
   rw [<- hn]
   clear hok hrd hrw hc htab hn
   go_in
   go_wp2_with fail
   refine (HWK.out w (Below.refl _ _)).mono ?_
   rintro e w1 ⟨rfl, hb1⟩
   have HB := zh hb1
   clear hb1
   go_wp2_with fail
   go_ret
   exact ⟨rfl, HB.out⟩
 . have hd : decide ((5000 : Int) < (n : Int)) = false := dqf (by omega)
   have HTO : Hid (∀ W, Below w.heap.size w W -> Calls prog 12 #[.slice A n c] W (TokPost W l)) := zh (fun W hW => by rw [hn]; exact tokens_any A c l W hok (hrd.below hW) hc.1 (by omega))
   have HRA : Hid (∀ W, Below w.heap.size w W -> Calls prog 13 #[.slice A n c] W (TokPost W l)) := zh (fun W hW => by rw [hn]; exact rall_any A c l W hok (hrd.below hW) (by omega))
   rw [<- hn]
   clear hok hrd hrw hc htab hn
   go_in
   go_wp2_with fail
   refine (HTO.out w (Below.refl _ _)).mono ?_
   rintro e w1 ⟨A1, n1, c1, o, er, rfl, hn1, ho1, hb1, hr1⟩
   have H1 := zh (ai hn1 (ai ho1 (ai hb1 hr1)))
   clear hn1 ho1 hb1 hr1
   go_wp2_with fail
   refine (HRA.out w1 H1.out.2.2.1).mono ?_
   rintro e w2 ⟨A2, n2, c2, o2, er2, rfl, hn2, ho2, hb2, hr2⟩
   obtain ⟨rfl, rfl⟩ := ShowR.one H1.out.2.2.2 hr2
   obtain rfl : n2 = n1 := hn2.trans H1.out.1.symm
   have HNT : Hid (n2 = o.length ∧ n2 <= 16400) := zh ⟨hn2, by rw [hn2]; exact hr2.few⟩
   have HR1 : Hid (w2.ownsRow w.heap.size 35 4 (.slice A1 n2 c1) n2 (rowOf zcell o) ∧ w2.ownsRow w1.heap.size 35 4 (.slice A2 n2 c2) n2 (rowOf zcell o) ∧ Below w.heap.size w w2) := zh ⟨own_below H1.out.2.1 hb2, ho2, H1.out.2.2.1.trans (hb2.mono H1.out.2.2.1.size)⟩
   have HSR := zh hr2
   have HG1 : Hid (∀ g, (Value.slice A1 n2 c1).ownBlock = some g -> w.heap.size <= g ∧ g < w1.heap.size) := zh (fun g hg => World.ownsRow.lt H1.out.2.1 g hg)
   have HAL := zh (tokens_same A1 A2 c1 c2 n2 o w2 (RdL.of_own zcell_len HR1.out.1 HNT.out.1) (RdL.of_own zcell_len HR1.out.2.1 HNT.out.1) HNT.out.1 (by have := HNT.out.2; omega))
   have her : (er == er) = true := bse _
   have her2 : (er != er) = false := by simp
   have hn28 := HNT.out.2
   clear hn2 ho2 hb2 hr2 H1 HRA
   go_wp2_with fail
   refine HAL.out.mono ?_
   rintro e w3 ⟨rfl, z, hw3⟩
   have HR3 : Hid (w3.ownsRow w.heap.size 35 4 (.slice A1 n2 c1) n2 (rowOf zcell o) ∧ w3.ownsRow w1.heap.size 35 4 (.slice A2 n2 c2) n2 (rowOf zcell o) ∧ Below w.heap.size w w3) := zh (by
    rw [hw3]
    have hb := below_drewN (Below.refl w2.heap.size w2) z
    exact ⟨own_below HR1.out.1 hb, own_below HR1.out.2.1 hb, below_drewN HR1.out.2.2 z⟩)
   clear hw3 HAL HR1
   go_wp2_with fail
   go_loopw [7] (fun s7 wl => ∃ (j : Nat) (xs : List Value), s7 = .int .i64 (j : Nat) ∧ j <= n2 ∧ wl.ownsRow w.heap.size 35 4 (.slice A1 n2 c1) n2 xs ∧ wl.ownsRow w1.heap.size 35 4 (.slice A2 n2 c2) n2 (rowOf zcell o) ∧ Below w.heap.size w wl) (fun s7 _ => n2 - (intOf s7).toNat)
   case atStart => exact ⟨0, _, rfl, by omega, HR3.out.1, HR3.out.2.1, HR3.out.2.2⟩
   case round =>
    obtain ⟨j2, xs, rfl, hj2, ho7, ho9, hb7⟩ := hrel
    have H7 := zh (ai ho7 (ai ho9 hb7))
    clear ho7 ho9 hb7
    by_cases hlt2 : j2 < n2
    . have hd3 : decide ((j2 : Int) < (n2 : Int)) = true := dqt (by omega)
      obtain ⟨g7, cap7, hv7, _, hlt7⟩ := H7.out.1.form (by omega)
      have hA7 : A1 = some ⟨g7, 0, none⟩ := by injection hv7
      subst hA7
      have hi0 : (0 : Int) <= (j2 : Int) := by omega
      have hin : (j2 : Int) < (n2 : Int) := by omega
      clear hv7
      have HTH := zh (own_there H7.out.1 hlt2)
      obtain ⟨xs', ho8, hch⟩ := own_setCells [.int .u8 9, .string noText, .int .i64 0, .int .i64 0] (j2 * 4) wr xs H7.out.1
      have H8 := zh (ai ho8 hch)
      have hgg := HG1.out g7 rfl
      clear ho8 hch
      go_wp2_with (refine wpList_store_mid rfl 35 (.tmp 42) (.tmp 41) rfl g7 (j2 * 4) #[.int .u8 9, .string noText, .int .i64 0, .int .i64 0] rfl rfl HTH.out (by kernel_rfl) one9 ?_)
      go_roundw
      case rel => exact ⟨j2 + 1, xs', by go_num, by omega, H8.out.1, own_chg H7.out.2.1 H8.out.2 (fun g hg h => by have h1 := World.ownsRow.lt H7.out.2.1 g hg; have h2 := hgg.2; omega), Chg.below H7.out.2.2 H8.out.2 H7.out.2.2.size (fun k hk => by rw [hk]; exact hgg.1)⟩
      case measure => simp [intOf]; omega
    . have hd3 : decide ((j2 : Int) < (n2 : Int)) = false := dqf (by omega)
      go_wp2_with fail
      refine (HTO.out wr H7.out.2.2).mono ?_
      rintro e w8 ⟨A3, n3, c3, o3, er3, rfl, hn3, ho3, hb8, hr3⟩
      obtain ⟨rfl, rfl⟩ := ShowR.one HSR.out hr3
      obtain rfl : n3 = n2 := hn3.trans HNT.out.1.symm
      have HB8 := zh (H7.out.2.2.trans (hb8.mono H7.out.2.2.size))
      have HAL2 := zh (tokens_same A3 A2 c3 c2 n3 o w8 (RdL.of_own zcell_len ho3 HNT.out.1) (RdL.of_own zcell_len (own_below H7.out.2.1 hb8) HNT.out.1) HNT.out.1 (by omega))
      clear hn3 ho3 hb8 hr3
      go_wp2_with fail
      refine HAL2.out.mono ?_
      rintro e w9 ⟨rfl, nq2, rfl⟩
      have HB9 := zh (below_drewN HB8.out nq2)
      clear HAL2
      generalize w8.drewN nq2 = w9 at *
      go_wp2_with fail
      refine (HWK.out w9 HB9.out).mono ?_
      rintro e w10 ⟨rfl, hb10⟩
      have HBF := zh (HB9.out.trans (hb10.mono HB9.out.size))
      clear hb10
      go_wp2_with fail
      go_ret
      exact ⟨rfl, HBF.out⟩
end Go.Proofs.YtbcadlocldplfaaDoor
