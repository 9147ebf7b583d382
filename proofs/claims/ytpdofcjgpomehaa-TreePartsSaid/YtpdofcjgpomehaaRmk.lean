/- Contracts of the document's Make and of the laws' Copied. -/
import Derived.Test.YtpdofcjgpomehaaRcw
namespace Go.Proofs.Ytpdofcjgpomehaa
open Go.RowKit

theorem right_pos {l : List Tw} (h : (chk l).2 = 0) : 0 < l.length := by
  obtain ⟨_, t, ht, _⟩ := chk_fine.1 h
  rw [← ht.2]
  exact flat_pos t
theorem many_flat : ∀ {ls : List (List Tw)}, (∀ l ∈ ls, 0 < l.length) → ls.length ≤ ls.flatten.length
  | [], _ => Nat.le_refl _
  | l :: ls, h => by
    rw [List.flatten_cons, List.length_append, List.length_cons]
    have h1 := h l (List.mem_cons_self ..)
    have h2 := many_flat (fun l hl => h l (List.mem_cons_of_mem _ hl))
    omega
set_option maxRecDepth 100000 in
set_option maxHeartbeats 8000000 in
theorem refMake_any (top : Tw) (P : Option Addr) (c : Nat) (vs : List Value) (ls : List (List Tw)) (w : World) (htop : TwOk top) (hok : ∀ l ∈ ls, ∀ x ∈ l, TwOk x) (hP : RdP w P vs) (hF : RdF w vs ls) (hlen : vs.length ≤ 100000) (hbig : ∀ l ∈ ls, l.length ≤ 9223372036854775807) :
    Calls Try.prog 19 #[.agg (twCells top), .slice P vs.length c] w (MakePost w top ls) := by
  obtain ⟨n, hn⟩ : ∃ n, n = vs.length := ⟨_, rfl⟩
  rw [← hn] at hlen ⊢
  have HN := Lib.hid (And.intro hn (hn.trans hF.len))
  have HP := Lib.hid (And.intro hP hF)
  have HOK := Lib.hid (And.intro htop (And.intro hok hbig))
  obtain ⟨op, kids, int, text⟩ := top
  clear hn hP hF htop hok hbig
  generalize hQ : MakePost w ⟨op, kids, int, text⟩ ls = Q
  have HQ := Lib.hid hQ
  clear hQ
  have hbx := Blk.new w 33 (twCells ⟨op, kids, int, text⟩)
  have HBX := Lib.hid (And.intro hbx ((Below.refl w.heap.size w).alloc (Nat.le_refl _) (.cells (twCells ⟨op, kids, int, text⟩) 33)))
  clear hbx
  dsimp only [twCells] at HBX ⊢
  go_enter Try.func19, Try.ntmps19
  go_wp2_with fail
  generalize w.alloc (.cells #[.int .u8 (op : Nat), .int .i64 kids, .int .i64 int, .string text] 33) = w0 at *
  obtain ⟨bx, hbx⟩ : ∃ g, g = w.heap.size := ⟨_, rfl⟩
  have HBB := Lib.hid HBX.out.2
  have HB1 := Lib.hid HBX.out.1
  rw [← hbx] at HB1 ⊢
  have HBE := Lib.hid hbx
  clear hbx HBX
  go_loopw [6, 7, 8] (fun s6 s7 s8 wr => ∃ i : Nat, s6 = .int .i64 (i : Nat) ∧ i ≤ n ∧ (∀ j k, j < i → ls[j]? = some k → (chk k).2 = 0) ∧ Below w0.heap.size w0 wr) (fun s6 _ _ _ => n - (intOf s6).toNat)
  case atStart => exact ⟨0, rfl, by omega, fun j k hj => by omega, Below.refl _ _⟩
  case round =>
    obtain ⟨i, rfl, hi, hpre, hb⟩ := hrel
    have HI := Lib.hid (And.intro hpre hb)
    clear hpre hb
    by_cases hlt : i < n
    · have hd1 : decide ((i : Int) < (n : Int)) = true := decide_eq_true (by omega)
      obtain ⟨v, hv⟩ : ∃ v, vs[i]? = some v := ⟨_, List.getElem?_eq_getElem (by rw [← HN.out.1]; exact hlt)⟩
      obtain ⟨l, hl⟩ : ∃ l, ls[i]? = some l := ⟨_, List.getElem?_eq_getElem (by rw [← HN.out.2]; exact hlt)⟩
      have hbw : Below w.heap.size w wr := HBB.out.trans (HI.out.2.mono HBB.out.size)
      obtain ⟨b, off, rfl, hbl, hat⟩ : ∃ b off, P = some ⟨b, off, none⟩ ∧ b < wr.heap.size ∧ ∀ (i : Nat) (v : Value), vs[i]? = some v → wr.cell? ⟨b, off + i, none⟩ = some v := (HP.out.1.below hbw).resolve_left (fun h => by rw [h] at hv; simp at hv)
      have c0 := hat i v hv
      obtain ⟨A1, c1, rfl, hrd, _, hcp⟩ := (HP.out.2.below hbw).at_ i v l hv hl
      have hmem := List.mem_of_getElem? hl
      have HC := Lib.hid (refCheck_any A1 c1 l wr (HOK.out.2.1 l hmem) hrd (HOK.out.2.2 l hmem))
      have HL := Lib.hid hl
      obtain ⟨ll, hll⟩ : ∃ z, z = l.length := ⟨_, rfl⟩
      rw [← hll] at c0 HC
      have HLL := Lib.hid hll
      have hi0 : (0 : Int) ≤ (i : Int) := by omega
      have hin : (i : Int) < (n : Int) := by omega
      clear hat hv hl hrd hcp hmem hll hbl
      go_wp2_with fail
      refine HC.out.mono ?_
      rintro e w2 ⟨⟨z, rfl⟩, hb2⟩
      have HB2 := Lib.hid (HI.out.2.trans (hb2.mono HI.out.2.size))
      clear hb2
      by_cases her : (chk l).2 = 0
      · rw [her]
        have HPR : Hid (∀ j k, j < i + 1 → ls[j]? = some k → (chk k).2 = 0) := fun j k hj hk => by
          rcases Nat.lt_or_ge j i with h | h
          · exact HI.out.1 j k h hk
          · have : j = i := by omega
            subst this
            rw [HL.out] at hk
            injection hk with hk
            subst hk
            exact her
        clear her
        go_wp2_with fail
        go_roundw
        case rel => exact ⟨i + 1, by go_num, by omega, HPR.out, HB2.out⟩
        case measure => simp [intOf]; omega
      · have hne : ((chk l).2 != 0) = true := by rw [bne_iff_ne]; exact her
        have HE : Hid (mkErr ⟨op, kids, int, text⟩ ls = (chk l).2 ∧ mkErr ⟨op, kids, int, text⟩ ls ≠ 0) := by
          have h := firstBad_at HI.out.1 HL.out her
          unfold mkErr
          rw [h, if_neg her]
          exact ⟨rfl, her⟩
        have HBF := Lib.hid (HBB.out.trans (HB2.out.mono HBB.out.size))
        generalize (chk l).2 = er at *
        clear her
        go_wp2_with fail
        rw [← HQ.out]
        exact ⟨⟨none, 0, 0, by rw [HE.out.1]; rfl, fun h => absurd h HE.out.2, fun _ => ⟨rfl, rfl, rfl⟩⟩, HBF.out⟩
    · have hd1 : decide ((i : Int) < (n : Int)) = false := decide_eq_false (by omega)
      have hin : i = n := by omega
      have HALL := Lib.hid (show ∀ k ∈ ls, (chk k).2 = 0 from fun k hk => by
        obtain ⟨j, hj⟩ := List.mem_iff_getElem?.1 hk
        exact HI.out.1 j k (by have := (List.getElem?_eq_some_iff.1 hj).1; have := HN.out; omega) hj)
      have HFB := Lib.hid (firstBad_no HALL.out)
      have HLN : Hid ((outOf ⟨op, kids, int, text⟩ ls).length = 1 + ls.flatten.length) := by unfold outOf; rw [List.length_cons]; exact Nat.add_comm _ _
      have HLONG := Lib.hid (show 2048 < 1 + ls.flatten.length → mkErr ⟨op, kids, int, text⟩ ls = 2 from fun h => by
        unfold mkErr
        rw [if_pos HFB.out, if_pos (by rw [HLN.out]; exact h)])
      clear hin
      by_cases hlong : 2048 < n
      · have hd2 : decide ((2048 : Int) < (n : Int)) = true := decide_eq_true (by omega)
        have HE := Lib.hid (HLONG.out (by
          have h1 := many_flat (fun l hl => right_pos (HALL.out l hl))
          have h2 := HN.out.2
          omega))
        have HBF := Lib.hid (HBB.out.trans (HI.out.2.mono HBB.out.size))
        go_wp2_with fail
        rw [← HQ.out]
        exact ⟨⟨none, 0, 0, by rw [HE.out]; rfl, fun h => absurd (HE.out.symm.trans h) (by decide), fun _ => ⟨rfl, rfl, rfl⟩⟩, HBF.out⟩
      · have hd2 : decide ((2048 : Int) < (n : Int)) = false := decide_eq_false (by omega)
        have hb1 := HB1.out.below HI.out.2 HB1.out.lt
        have y0 : wr.cell? ⟨bx, 0, none⟩ = some (.int .u8 (op : Nat)) := hb1.cell 0
        have y1 : wr.cell? ⟨bx, 1, none⟩ = some (.int .i64 kids) := hb1.cell 1
        have y2 : wr.cell? ⟨bx, 2, none⟩ = some (.int .i64 int) := hb1.cell 2
        have y3 : wr.cell? ⟨bx, 3, none⟩ = some (.string text) := hb1.cell 3
        have yf : wr.frozen? ⟨bx, 1, none⟩ = false := hb1.frozen 1
        have hbx2 : bx < wr.heap.size := hb1.lt
        clear hb1
        go_wp2_with fail
        have HL0 : Hid (((wr.setCell ⟨bx, 1, none⟩ (.int .i64 (n : Nat))).alloc (.cells #[.int .u8 (op : Nat), .int .i64 (n : Nat), .int .i64 int, .string text] 33)).ownsRow w.heap.size 33 4 (.slice (some ⟨wr.heap.size, 0, none⟩) 1 1) 1 (wcells (topOf ⟨op, kids, int, text⟩ ls :: (ls.take 0).flatten)) ∧ Below w.heap.size w ((wr.setCell ⟨bx, 1, none⟩ (.int .i64 (n : Nat))).alloc (.cells #[.int .u8 (op : Nat), .int .i64 (n : Nat), .int .i64 int, .string text] 33))) := by
          have hbw : Below w.heap.size w wr := HBB.out.trans (HI.out.2.mono HBB.out.size)
          have hbw2 : Below w.heap.size w (wr.setCell ⟨bx, 1, none⟩ (.int .i64 (n : Nat))) := hbw.setCell (p := ⟨bx, 1, none⟩) (by rw [HBE.out]; exact Nat.le_refl _) _
          have hsz : (wr.setCell ⟨bx, 1, none⟩ (.int .i64 (n : Nat))).heap.size = wr.heap.size := by simp [World.setCell]
          have hnew := heap_alloc_new (wr.setCell ⟨bx, 1, none⟩ (.int .i64 (n : Nat))) (.cells #[.int .u8 (op : Nat), .int .i64 (n : Nat), .int .i64 int, .string text] 33)
          rw [hsz] at hnew
          have htp : wcells (topOf ⟨op, kids, int, text⟩ ls :: (ls.take 0).flatten) = [.int .u8 (op : Nat), .int .i64 (n : Nat), .int .i64 int, .string text] := by
            rw [HN.out.2]; rfl
          rw [htp]
          exact ⟨⟨rfl, .inr ⟨wr.heap.size, 1, _, rfl, hbw.size, hnew, Nat.le_refl _, by decide, rfl, rfl⟩⟩, hbw2.alloc (by rw [hsz]; exact hbw.size) _⟩
        clear y0 y1 y2 y3 yf hbx2
        obtain ⟨wa, hwa⟩ : ∃ x, x = wr := ⟨_, rfl⟩
        subst hwa
        generalize (wa.setCell ⟨bx, 1, none⟩ (.int .i64 (n : Nat))).alloc (.cells #[.int .u8 (op : Nat), .int .i64 (n : Nat), .int .i64 int, .string text] 33) = w5 at *
        generalize wa.heap.size = g5 at *
        go_loopw [9, 10] (fun s9 s10 wl => ∃ (j m c3 : Nat) (A3 : Option Addr), s9 = .slice A3 m c3 ∧ s10 = .int .i64 (j : Nat) ∧ j ≤ n ∧ m = 1 + (ls.take j).flatten.length ∧ m ≤ 2048 ∧ wl.ownsRow w.heap.size 33 4 (.slice A3 m c3) m (wcells (topOf ⟨op, kids, int, text⟩ ls :: (ls.take j).flatten)) ∧ Below w.heap.size w wl) (fun _ s10 _ => n - (intOf s10).toNat)
        case atStart => exact ⟨0, 1, 1, some ⟨g5, 0, none⟩, rfl, rfl, by omega, by simp, by omega, HL0.out.1, HL0.out.2⟩
        case round =>
          clear HL0
          obtain ⟨j, m, c3, A3, rfl, rfl, hj, hm, hm8, ho, hb⟩ := hrel
          have HO := Lib.hid (And.intro hm (And.intro ho hb))
          clear hm ho hb
          by_cases hjn : j < n
          · have hd3 : decide ((j : Int) < (n : Int)) = true := decide_eq_true (by omega)
            obtain ⟨v, hv⟩ : ∃ v, vs[j]? = some v := ⟨_, List.getElem?_eq_getElem (by rw [← HN.out.1]; exact hjn)⟩
            obtain ⟨l, hl⟩ : ∃ l, ls[j]? = some l := ⟨_, List.getElem?_eq_getElem (by rw [← HN.out.2]; exact hjn)⟩
            obtain ⟨b, off, rfl, hbl, hat⟩ : ∃ b off, P = some ⟨b, off, none⟩ ∧ b < wr.heap.size ∧ ∀ (i : Nat) (v : Value), vs[i]? = some v → wr.cell? ⟨b, off + i, none⟩ = some v := (HP.out.1.below HO.out.2.2).resolve_left (fun h => by rw [h] at hv; simp at hv)
            have c0 := hat j v hv
            obtain ⟨A1, c1, rfl, hrd, hA1, hcp⟩ := (HP.out.2.below HO.out.2.2).at_ j v l hv hl
            have hll8 : l.length ≤ 2048 := chk_short (HALL.out l (List.mem_of_getElem? hl))
            have HRD := Lib.hid hrd.reads
            have HTK := Lib.hid (show (ls.take (j + 1)).flatten = (ls.take j).flatten ++ l from by rw [List.take_add_one, hl]; simp)
            have HPX := Lib.hid (show 1 + (ls.take (j + 1)).flatten.length ≤ 1 + ls.flatten.length from by
              conv => rhs; rw [← List.take_append_drop (j + 1) ls, List.flatten_append, List.length_append]
              omega)
            obtain ⟨ll, hll⟩ : ∃ z, z = l.length := ⟨_, rfl⟩
            rw [← hll] at c0 HRD hll8
            have HLL := Lib.hid hll
            have hj0 : (0 : Int) ≤ (j : Int) := by omega
            have hjn2 : (j : Int) < (n : Int) := by omega
            have HBD : Hid (m + ll ≤ 100000) := (by omega : m + ll ≤ 100000)
            have HML := Lib.hid (show m + ll = 1 + (ls.take (j + 1)).flatten.length from by rw [HTK.out, List.length_append, ← HLL.out, HO.out.1]; omega)
            clear hat hv hl hrd hA1 hcp hll hbl
            by_cases hbig : 2048 < m + ll
            · have hdb : decide ((2048 : Int) < (m : Int) + (ll : Int)) = true := decide_eq_true (by omega)
              have HE := Lib.hid (HLONG.out (by have := HML.out; have := HPX.out; omega))
              go_wp2_with (at_builtin; refine wpList_app_twigs rfl (.tmp 44) (.tmp 48) rfl w.heap.size m ll c3 c1 wr.heap.size A3 A1 (topOf ⟨op, kids, int, text⟩ ls :: (ls.take j).flatten) l rfl HO.out.2.1 rfl HRD.out HBD.out HO.out.2.2.size ?_; intro A4 c4 w6 ho6 hg6; have H6 := Lib.hid (And.intro ho6 (HO.out.2.2.grown hg6 HO.out.2.2.size (fun r hr => (World.ownsRow.lt HO.out.2.1 r hr).1))); clear ho6 hg6)
              rw [← HQ.out]
              exact ⟨⟨none, 0, 0, by rw [HE.out]; rfl, fun h => absurd (HE.out.symm.trans h) (by decide), fun _ => ⟨rfl, rfl, rfl⟩⟩, H6.out.2⟩
            · have hdb : decide ((2048 : Int) < (m : Int) + (ll : Int)) = false := decide_eq_false (by omega)
              go_wp2_with (at_builtin; refine wpList_app_twigs rfl (.tmp 44) (.tmp 48) rfl w.heap.size m ll c3 c1 wr.heap.size A3 A1 (topOf ⟨op, kids, int, text⟩ ls :: (ls.take j).flatten) l rfl HO.out.2.1 rfl HRD.out HBD.out HO.out.2.2.size ?_; intro A4 c4 w6 ho6 hg6; have H6 := Lib.hid (And.intro ho6 (HO.out.2.2.grown hg6 HO.out.2.2.size (fun r hr => (World.ownsRow.lt HO.out.2.1 r hr).1))); clear ho6 hg6)
              go_roundw
              case rel => exact ⟨j + 1, m + ll, c4, A4, rfl, by go_num, by omega, HML.out, by omega, by rw [HTK.out]; exact H6.out.1, H6.out.2⟩
              case measure => simp [intOf]; omega
          · have hd3 : decide ((j : Int) < (n : Int)) = false := decide_eq_false (by omega)
            have HFIN : Hid (m = (outOf ⟨op, kids, int, text⟩ ls).length ∧ wr.ownsRow w.heap.size 33 4 (.slice A3 m c3) m (wcells (outOf ⟨op, kids, int, text⟩ ls))) := by
              have h1 := HO.out.1
              have h2 := HO.out.2.1
              have h3 : ls.take j = ls := List.take_of_length_le (by have := HN.out; omega)
              rw [h3] at h1 h2
              exact ⟨by rw [HLN.out]; exact h1, h2⟩
            have HCK : Hid (Calls Try.prog 23 #[.slice A3 m c3] wr (RckPost wr (chk (outOf ⟨op, kids, int, text⟩ ls)).2)) := by
              have h := refCheck_any A3 c3 (outOf ⟨op, kids, int, text⟩ ls) wr (fun x hx => by
                unfold outOf at hx
                rcases List.mem_cons.1 hx with rfl | hx
                · have h0 := HOK.out.1
                  have := HN.out.2
                  exact ⟨h0.1, by unfold topOf; dsimp only; omega, by unfold topOf; dsimp only; omega, h0.2.2.2.1, h0.2.2.2.2.1, h0.2.2.2.2.2⟩
                · obtain ⟨l, hl1, hl2⟩ := List.mem_flatten.1 hx
                  exact HOK.out.2.1 l hl1 x hl2) (RdW.of_own HFIN.out.2 HFIN.out.1) (by rw [← HFIN.out.1]; omega)
              rw [← HFIN.out.1] at h
              exact h
            have HME := Lib.hid (show mkErr ⟨op, kids, int, text⟩ ls = (chk (outOf ⟨op, kids, int, text⟩ ls)).2 from by
              unfold mkErr
              rw [if_pos HFB.out, if_neg (by rw [← HFIN.out.1]; omega)])
            obtain ⟨ce, hck⟩ : ∃ z, z = (chk (outOf ⟨op, kids, int, text⟩ ls)).2 := ⟨_, rfl⟩
            rw [← hck] at HCK HME
            clear hck
            go_wp2_with fail
            refine HCK.out.mono ?_
            rintro e w7 ⟨⟨zz, rfl⟩, hb7⟩
            have HB7 := Lib.hid (HO.out.2.2.trans (hb7.mono HO.out.2.2.size))
            have HOW7 := Lib.hid (own_below HFIN.out.2 hb7)
            clear hb7
            by_cases hce : ce = 0
            · subst hce
              go_wp2_with fail
              rw [← HQ.out]
              exact ⟨⟨A3, m, c3, by rw [HME.out]; rfl, fun _ => ⟨HFIN.out.1, HOW7.out⟩, fun h => absurd HME.out h⟩, HB7.out⟩
            · have hne : (ce != 0) = true := by rw [bne_iff_ne]; exact hce
              have HCE := Lib.hid hce
              clear hce
              go_wp2_with fail
              rw [← HQ.out]
              exact ⟨⟨none, 0, 0, by rw [HME.out]; rfl, fun h => absurd (HME.out.symm.trans h) HCE.out, fun _ => ⟨rfl, rfl, rfl⟩⟩, HB7.out⟩
end Go.Proofs.Ytpdofcjgpomehaa
