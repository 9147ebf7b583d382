/- The walk of prompterlaw08.TreeMade: it returns true. -/
import Derived.Test.YtpdofcjgpomehaaOp2
namespace Go.Proofs.Ytpdofcjgpomehaa
open Go.RowKit

theorem mk_first {top : Tw} {ls : List (List Tw)} (h : mkErr top ls = 0) : firstBad ls = 0 := by
  unfold mkErr at h
  split at h
  · assumption
  · rename_i hfb; exact absurd h hfb
theorem outOf_ok {top : Tw} {ls : List (List Tw)} (htop : TwOk top) (hok : ∀ l ∈ ls, ∀ x ∈ l, TwOk x) (hlen : ls.length ≤ 9223372036854775807) : ∀ x ∈ outOf top ls, TwOk x := by
  intro x hx
  unfold outOf at hx
  rcases List.mem_cons.1 hx with rfl | hx
  · exact ⟨htop.1, by unfold topOf; dsimp only; omega, by unfold topOf; dsimp only; omega, htop.2.2.2.1, htop.2.2.2.2.1, htop.2.2.2.2.2⟩
  · obtain ⟨l, hl1, hl2⟩ := List.mem_flatten.1 hx
    exact hok l hl1 x hl2
set_option maxRecDepth 100000 in
set_option maxHeartbeats 8000000 in
theorem treeMade_walk (top : Tw) (P : Option Addr) (c : Nat) (vs : List Value) (ls : List (List Tw)) (w : World) (htop : TwOk top) (hok : ∀ l ∈ ls, ∀ x ∈ l, TwOk x) (hP : RdP w P vs) (hF : RdF w vs ls) (hlen : vs.length ≤ 9223372036854775807) :
    Calls Try.prog 7 #[.agg (twCells top), .slice P vs.length c] w fun e w' => e = .returned (.bool true) ∧ Below w.heap.size w w' := by
  have HWK := Lib.hid (fun W => wakes_any W)
  have HMA := Lib.hid (fun W (hb : Below w.heap.size w W) => many_any P c vs ls W (hP.below hb) (hF.below hb) hlen)
  have HBIG := Lib.hid (show ∀ l ∈ ls, l.length ≤ 9223372036854775807 from fun l hl => by
    obtain ⟨i, hi⟩ := List.mem_iff_getElem?.1 hl
    have hil := (List.getElem?_eq_some_iff.1 hi).1
    obtain ⟨v, hv⟩ : ∃ v, vs[i]? = some v := ⟨_, List.getElem?_eq_getElem (by rw [hF.len]; exact hil)⟩
    obtain ⟨A, c, _, _, _, h1, h2⟩ := hF.at_ i v l hv hi
    omega)
  have HMK := Lib.hid (fun W (hb : Below w.heap.size w W) (h3 : vs.length ≤ 100000) => make_any top P c vs ls W htop hok (hP.below hb) (hF.below hb) h3 HBIG.out)
  have HPF := Lib.hid (And.intro hP hF)
  obtain ⟨n, hn⟩ : ∃ n, n = vs.length := ⟨_, rfl⟩
  have hnl : n = ls.length := hn.trans hF.len
  rw [← hn] at hlen HMA HMK ⊢
  have HN := Lib.hid (And.intro hn hnl)
  have HOK := Lib.hid (And.intro htop hok)
  obtain ⟨op, kids, int, text⟩ := top
  have HBX := Lib.hid (And.intro (Blk.new w 33 (twCells ⟨op, kids, int, text⟩)) ((Below.refl w.heap.size w).alloc (Nat.le_refl _) (.cells (twCells ⟨op, kids, int, text⟩) 33)))
  clear hn hnl htop hok hP hF
  dsimp only [twCells] at HBX HMK ⊢
  go_enter Try.func7, Try.ntmps7
  go_wp2_with fail
  generalize w.alloc (.cells #[.int .u8 (op : Nat), .int .i64 kids, .int .i64 int, .string text] 33) = w0 at *
  obtain ⟨bx, hbx⟩ : ∃ g, g = w.heap.size := ⟨_, rfl⟩
  have HB0 := Lib.hid HBX.out.2
  have HXB := Lib.hid HBX.out.1
  rw [← hbx] at HXB ⊢
  clear hbx HBX
  refine (HMA.out w0 HB0.out).mono ?_
  rintro e w1 ⟨⟨b, rfl, hb⟩, hw1⟩
  rw [hw1]
  clear hw1 w1
  cases b
  case true =>
    clear hb
    go_wp2_with fail
    refine (HWK.out w0).mono ?_
    rintro e w2 ⟨rfl, hb2⟩
    have HB := Lib.hid (HB0.out.trans (hb2.mono HB0.out.size))
    clear hb2
    go_wp2_with fail
    go_ret
    exact ⟨rfl, HB.out⟩
  case false =>
    have hn3 : n ≤ 3001 := hb rfl
    clear hb
    have x0 : w0.cell? ⟨bx, 0, none⟩ = some (.int .u8 (op : Nat)) := HXB.out.cell 0
    have x1 : w0.cell? ⟨bx, 1, none⟩ = some (.int .i64 kids) := HXB.out.cell 1
    have x2 : w0.cell? ⟨bx, 2, none⟩ = some (.int .i64 int) := HXB.out.cell 2
    have x3 : w0.cell? ⟨bx, 3, none⟩ = some (.string text) := HXB.out.cell 3
    have HMK0 := Lib.hid (HMK.out w0 HB0.out (by omega))
    go_wp2_with fail
    refine HMK0.out.mono ?_
    rintro e w1 ⟨⟨A5, n5, c5, rfl, hz, hnz⟩, hb1⟩
    have HB1 := Lib.hid (HB0.out.trans (hb1.mono HB0.out.size))
    have HXB1 := Lib.hid (HXB.out.below hb1 HXB.out.lt)
    by_cases hme : mkErr ⟨op, kids, int, text⟩ ls = 0
    case neg =>
      obtain ⟨rfl, rfl, rfl⟩ := hnz hme
      generalize mkErr ⟨op, kids, int, text⟩ ls = er at *
      have hne : (er != 0) = true := by rw [bne_iff_ne]; exact hme
      clear hz hnz hme hb1 x0 x1 x2 x3 HMK0
      go_wp2_with fail
      refine (HWK.out w1).mono ?_
      rintro e w2 ⟨rfl, hb2⟩
      have HB := Lib.hid (HB1.out.trans (hb2.mono HB1.out.size))
      clear hb2
      go_wp2_with fail
      go_ret
      exact ⟨rfl, HB.out⟩
    case pos =>
      obtain ⟨hn5, ho5⟩ := hz hme
      obtain ⟨ks, hT, hd, hout, hmap⟩ := make_made hme
      rw [hme]
      have HL8 := Lib.hid (show ∀ l ∈ ls, l.length ≤ 2048 from fun l hl => chk_short (firstBad_all (mk_first hme) l hl))
      have hoo := outOf_ok (ls := ls) HOK.out.1 HOK.out.2 (by have := HN.out.2; omega)
      obtain ⟨g5, cap5, hv5, _, hlt5⟩ := ho5.form (by rw [hn5]; unfold outOf; simp)
      have hA5 : A5 = some ⟨g5, 0, none⟩ := by injection hv5
      subst hA5
      have HPA := Lib.hid (parts_any (topOf ⟨op, kids, int, text⟩ ls) ks (some ⟨g5, 0, none⟩) c5 (outOf ⟨op, kids, int, text⟩ ls) w1 hT hd hoo (RdW.of_own ho5 hn5) hout (by rw [← hn5]; exact ⟨own_cap ho5, own_cap2 ho5⟩) (fun a ha _ => by injection ha with ha; subst ha; exact hlt5))
      rw [hmap, ← hn5] at HPA
      have HT0 : Hid (TwAt w1 g5 0 (topOf ⟨op, kids, int, text⟩ ls) ∧ g5 < w1.heap.size) := by
        refine ⟨?_, hlt5⟩
        rcases RdW.of_own ho5 hn5 with h | ⟨b, off, hA, _, hat⟩
        · unfold outOf at h; cases h
        · injection hA with hA
          injection hA with h1 h2
          subst h1; subst h2
          exact hat 0 _ rfl
      have hn5p : 0 < n5 := by rw [hn5]; unfold outOf; simp
      have hn5b : n5 ≤ 2048 := by omega
      clear hz hnz hme hn5 ho5 hT hd hout hmap hoo hv5 hlt5 hb1 x0 x1 x2 x3 HMK0
      go_wp2_with fail
      refine HPA.out.mono ?_
      rintro e w2 ⟨A6, c6, us, rfl, hown, hts, hb2⟩
      rw [← HN.out.2] at hown ⊢
      have HB2 := Lib.hid (HB1.out.trans (hb2.mono HB1.out.size))
      have HU := Lib.hid (And.intro hown hts)
      have hxb2 := HXB1.out.below hb2 HXB1.out.lt
      have x0 : w2.cell? ⟨bx, 0, none⟩ = some (.int .u8 (op : Nat)) := hxb2.cell 0
      have x2 : w2.cell? ⟨bx, 2, none⟩ = some (.int .i64 int) := hxb2.cell 2
      have x3 : w2.cell? ⟨bx, 3, none⟩ = some (.string text) := hxb2.cell 3
      have ht2 := HT0.out.1.of_block (hb2.block g5 HT0.out.2)
      obtain ⟨y0, y1, y2, y3⟩ := ht2
      unfold topOf at y0 y1 y2 y3
      dsimp only at y0 y1 y2 y3
      have hop : ((op : Int) != (op : Int)) = false := by simp
      have hii : (int != int) = false := by simp
      have htt : (text.toList == text.toList) = true := beq_self_eq_true _
      have i1 : (0 : Int) < (n5 : Int) := by omega
      clear hown hts hb2 hxb2 HPA
      go_wp2_with fail
      go_quiet (fail)
      have HB3 := Lib.hid (below_drewN HB2.out nq)
      have HU3 : Hid ((w2.drewN nq).ownsRow w1.heap.size 25 1 (.slice A6 n c6) n us ∧ TreesAt (w2.drewN nq) w1.heap.size us ls) := ⟨own_below HU.out.1 (below_drewN (Below.refl _ w2) nq), HU.out.2.below (below_drewN (Below.refl _ w2) nq)⟩
      clear x0 x2 x3 y0 y1 y2 y3 HU HB2
      generalize w2.drewN nq = w3 at *
      go_wp2_with fail
      go_loopw [9] (fun s9 wr => ∃ i : Nat, s9 = .int .i64 (i : Nat) ∧ i ≤ n ∧ Below w3.heap.size w3 wr) (fun s9 _ => n - (intOf s9).toNat)
      case atStart => exact ⟨0, rfl, by omega, Below.refl _ _⟩
      case round =>
        obtain ⟨i, rfl, hi, hb⟩ := hrel
        have HB := Lib.hid hb
        have HBW := Lib.hid (HB3.out.trans (hb.mono HB3.out.size))
        clear hb
        by_cases hlt : i < n
        · have hd2 : decide ((i : Int) < (n : Int)) = true := decide_eq_true (by omega)
          have hul : us.length = n := by have := HU3.out.1.1; omega
          obtain ⟨u, hu⟩ : ∃ u, us[i]? = some u := ⟨_, List.getElem?_eq_getElem (by rw [hul]; exact hlt)⟩
          obtain ⟨v, hv⟩ : ∃ v, vs[i]? = some v := ⟨_, List.getElem?_eq_getElem (by rw [← HN.out.1]; exact hlt)⟩
          obtain ⟨l, hl⟩ : ∃ l, ls[i]? = some l := ⟨_, List.getElem?_eq_getElem (by rw [← HN.out.2]; exact hlt)⟩
          have hown := own_below HU3.out.1 HB.out
          obtain ⟨Au, cu, rfl, hou⟩ := (HU3.out.2.below HB.out).at_ i u l hu hl
          obtain ⟨b, off, rfl, _, hat⟩ : ∃ b off, P = some ⟨b, off, none⟩ ∧ b < wr.heap.size ∧ ∀ (i : Nat) (v : Value), vs[i]? = some v → wr.cell? ⟨b, off + i, none⟩ = some v := (HPF.out.1.below HBW.out).resolve_left (fun h => by rw [h] at hv; simp at hv)
          have c0 := hat i v hv
          obtain ⟨Av, cv, rfl, hrv, _, hcv⟩ := (HPF.out.2.below HBW.out).at_ i v l hv hl
          obtain ⟨g6, cap6, hv6, _, _⟩ := hown.form (by omega)
          have hA6 : A6 = some ⟨g6, 0, none⟩ := by injection hv6
          subst hA6
          have d0 : wr.cell? ⟨g6, i, none⟩ = some (.slice Au l.length cu) := by
            have := hown.cells (g := g6) rfl i _ hu
            rw [addr_add, Nat.zero_add] at this
            exact this
          have HRU := Lib.hid (RdW.of_own hou rfl)
          have HRV := Lib.hid hrv
          have hlb : l.length ≤ 1000000 := by
            have h2 := HL8.out l (List.mem_of_getElem? hl)
            omega
          have HAL := Lib.hid (fun q => alike_same Au Av cu cv l.length l (wr.drewN q) (HRU.out.below (below_drewN (Below.refl _ wr) q)) (HRV.out.below (below_drewN (Below.refl _ wr) q)) rfl hlb)
          generalize l.length = ll at c0 d0 HAL
          have hi0 : (0 : Int) ≤ (i : Int) := by omega
          have hin : (i : Int) < (n : Int) := by omega
          clear hul hu hv hl hown hou hat hrv hcv hv6 hlb
          go_wp2_with fail
          go_quiet (refine Calls.quiet_of (HAL.out _))
          have HBN := Lib.hid (below_drewN HB.out nq)
          clear HAL c0 d0
          go_wp2_with fail
          go_roundw
          case rel => exact ⟨i + 1, by go_num, by omega, HBN.out⟩
          case measure => simp [intOf]; omega
        · have hd2 : decide ((i : Int) < (n : Int)) = false := decide_eq_false (by omega)
          go_wp2_with fail
          refine (HWK.out wr).mono ?_
          rintro e w8 ⟨rfl, hb8⟩
          have HBF := Lib.hid (HBW.out.trans (hb8.mono HBW.out.size))
          clear hb8
          go_wp2_with fail
          go_ret
          exact ⟨rfl, HBF.out⟩
end Go.Proofs.Ytpdofcjgpomehaa
