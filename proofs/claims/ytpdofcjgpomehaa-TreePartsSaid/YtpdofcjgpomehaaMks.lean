/- The walk of prompterlaw08.TreeMakes, where no tree is longer than a bound: it returns true. -/
import Derived.Test.YtpdofcjgpomehaaMny
import Derived.Test.YtpdofcjgpomehaaRmk
import Derived.Deep.MidRow
namespace Go.Proofs.Ytpdofcjgpomehaa
open Go.RowKit

theorem TreesAt.snoc_below {w w' : World} {base : Nat} {vs : List Value} {ls : List (List Tw)} (h : TreesAt w base vs ls) {A : Option Addr} {c : Nat} {l : List Tw} (hb : base ≤ w.heap.size) (hg : Below w.heap.size w w') (ho : w'.ownsRow w.heap.size 33 4 (.slice A l.length c) l.length (wcells l)) : TreesAt w' base (vs ++ [.slice A l.length c]) (ls ++ [l]) := by
  have h2 : TreesAt w' base vs ls := h.below hg
  have hl := h.lt
  refine ⟨by simp [h.len], fun i v l2 hv hl2 => ?_, fun i j v u g hij hv hu hgv hgu => ?_⟩
  · rcases Nat.lt_trichotomy i vs.length with hi | hi | hi
    · rw [List.getElem?_append_left hi] at hv
      rw [List.getElem?_append_left (by rw [← h.len]; exact hi)] at hl2
      exact h2.at_ i v l2 hv hl2
    · subst hi
      rw [List.getElem?_append_right (Nat.le_refl _), Nat.sub_self] at hv
      rw [List.getElem?_append_right (by rw [h.len]; exact Nat.le_refl _), h.len, Nat.sub_self] at hl2
      injection hv with hv
      injection hl2 with hl2
      subst hv; subst hl2
      exact ⟨A, c, rfl, own_at ho (fun g hg => Nat.le_trans hb (World.ownsRow.lt ho g hg).1)⟩
    · rw [List.getElem?_eq_none (by simp; omega)] at hv; cases hv
  · have hj : j < (vs ++ [Value.slice A l.length c]).length := (List.getElem?_eq_some_iff.1 hu).1
    simp at hj
    have hi : i < vs.length := by omega
    rw [List.getElem?_append_left hi] at hv
    rcases Nat.lt_or_ge j vs.length with hj2 | hj2
    · rw [List.getElem?_append_left hj2] at hu
      exact h.far i j v u g hij hv hu hgv hgu
    · have : j = vs.length := by omega
      subst this
      rw [List.getElem?_append_right (Nat.le_refl _), Nat.sub_self] at hu
      injection hu with hu
      subst hu
      have h3 := hl v (List.mem_of_getElem? hv) g hgv
      have h4 := World.ownsRow.lt ho g hgu
      omega
theorem own_setCells {base n cap g : Nat} {e : TypeId} {size : Nat} : ∀ (cs : List Value) (o : Nat) (w : World) (xs : List Value), w.ownsRow base e size (.slice (some ⟨g, 0, none⟩) n cap) n xs → ∃ xs', (w.setCells g o cs).ownsRow base e size (.slice (some ⟨g, 0, none⟩) n cap) n xs' ∧ Chg (fun b => b = g) w (w.setCells g o cs)
  | [], _, w, xs, h => ⟨xs, h, Chg.refl _ _⟩
  | v :: r, o, w, xs, h => by
    obtain ⟨h1, h2⟩ := h.stored o v
    obtain ⟨xs', h3, h4⟩ := own_setCells r (o + 1) _ _ h1
    exact ⟨xs', h3, (Chg.of_grown h2 (fun r hr => by injection hr with hr; exact hr.symm)).trans h4⟩
theorem own_there {w : World} {base n cap g i : Nat} {e : TypeId} {xs : List Value} (h : w.ownsRow base e 4 (.slice (some ⟨g, 0, none⟩) n cap) n xs) (hi : i < n) : w.there g (i * 4) 4 := fun j hj => by
  refine ⟨?_, World.ownsRow.frozenAt h _⟩
  have hl : xs.length = n * 4 := h.1
  have h1 := h.cells (g := g) rfl (i * 4 + j) _ (List.getElem?_eq_getElem (by omega))
  rw [addr_add, Nat.zero_add] at h1
  rw [h1]
  rfl
theorem one99 : (#[.int .u8 99, .int .i64 0, .int .i64 0, .string noText] : Array Value).all (·.oneCell') = true := by kernel_rfl
theorem made_own {w w' : World} {top : Tw} {ls : List (List Tw)} {A : Option Addr} {n c : Nat} (hz : mkErr top ls = 0 → n = (outOf top ls).length ∧ w'.ownsRow w.heap.size 33 4 (.slice A n c) n (wcells (outOf top ls))) (hnz : mkErr top ls ≠ 0 → A = none ∧ n = 0 ∧ c = 0) :
    n = (if mkErr top ls = 0 then outOf top ls else []).length ∧ w'.ownsRow w.heap.size 33 4 (.slice A n c) n (wcells (if mkErr top ls = 0 then outOf top ls else [])) := by
  by_cases h : mkErr top ls = 0
  · rw [if_pos h]; exact hz h
  · obtain ⟨rfl, rfl, rfl⟩ := hnz h
    rw [if_neg h]
    exact ⟨rfl, World.ownsRow_nil _ _ _ _⟩
theorem made_len (top : Tw) (ls : List (List Tw)) : (if mkErr top ls = 0 then outOf top ls else []).length ≤ 2048 := by
  by_cases h : mkErr top ls = 0
  · rw [if_pos h]
    obtain ⟨_, _, _, h, _⟩ := make_made h
    exact h
  · rw [if_neg h]; exact Nat.zero_le _
set_option maxRecDepth 100000 in
set_option maxHeartbeats 8000000 in
theorem treeMakes_walk (top : Tw) (P : Option Addr) (c : Nat) (vs : List Value) (ls : List (List Tw)) (w : World) (htop : TwOk top) (hok : ∀ l ∈ ls, ∀ x ∈ l, TwOk x) (hP : RdP w P vs) (hF : RdF w vs ls) (hlen : vs.length ≤ 9223372036854775807) (hsm : ∀ l ∈ ls, l.length ≤ 1048576) :
    Calls Try.prog 5 #[.agg (twCells top), .slice P vs.length c] w fun e w' => e = .returned (.bool true) ∧ Below w.heap.size w w' := by
  have HWK := Lib.hid (fun W => wakes_any W)
  have HMA := Lib.hid (fun W (hb : Below w.heap.size w W) => many_any2 P c vs ls W (hP.below hb) (hF.below hb) hlen hsm)
  have HBIG := Lib.hid (show ∀ l ∈ ls, l.length ≤ 9223372036854775807 from fun l hl => by have := hsm l hl; omega)
  have HMK := Lib.hid (fun W (B : Option Addr) (d : Nat) (us : List Value) (hp : RdP W B us) (hf : RdF W us ls) (h3 : us.length ≤ 100000) => make_any top B d us ls W htop hok hp hf h3 HBIG.out)
  have HRM := Lib.hid (fun W (hb : Below w.heap.size w W) (h3 : vs.length ≤ 100000) => refMake_any top P c vs ls W htop hok (hP.below hb) (hF.below hb) h3 HBIG.out)
  have HPF := Lib.hid (And.intro hP hF)
  obtain ⟨n, hn⟩ : ∃ n, n = vs.length := ⟨_, rfl⟩
  have hnl : n = ls.length := hn.trans hF.len
  rw [← hn] at hlen HMA HRM ⊢
  have HN := Lib.hid (And.intro hn hnl)
  have HLL := Lib.hid (show ∀ (i : Nat) (l : List Tw), ls[i]? = some l → l.length ≤ ls.flatten.length from fun i l hl => by
    have h := List.mem_of_getElem? hl
    obtain ⟨a, b, rfl⟩ := List.append_of_mem h
    simp; omega)
  have HML := Lib.hid (And.intro (made_len top ls) (fun (w w' : World) (A : Option Addr) (n c : Nat) => made_own (w := w) (w' := w') (top := top) (ls := ls) (A := A) (n := n) (c := c)))
  obtain ⟨op, kids, int, text⟩ := top
  have HBX := Lib.hid (And.intro (Blk.new w 33 (twCells ⟨op, kids, int, text⟩)) ((Below.refl w.heap.size w).alloc (Nat.le_refl _) (.cells (twCells ⟨op, kids, int, text⟩) 33)))
  clear hn hnl htop hok hP hF hsm
  unfold MakePost at HMK HRM
  generalize (if mkErr ⟨op, kids, int, text⟩ ls = 0 then outOf ⟨op, kids, int, text⟩ ls else []) = lo at *
  generalize mkErr ⟨op, kids, int, text⟩ ls = er at *
  dsimp only [twCells] at HBX HMK HRM ⊢
  go_enter Try.func5, Try.ntmps5
  go_wp2_with fail
  generalize w.alloc (.cells #[.int .u8 (op : Nat), .int .i64 kids, .int .i64 int, .string text] 33) = w0 at *
  obtain ⟨bx, hbx⟩ : ∃ g, g = w.heap.size := ⟨_, rfl⟩
  have HB0 := Lib.hid HBX.out.2
  have HXB := Lib.hid HBX.out.1
  rw [← hbx] at HXB ⊢
  clear hbx HBX
  refine (HMA.out w0 HB0.out).mono ?_
  rintro e w1 ⟨⟨b, rfl, hb⟩, hw1⟩
  rw [hw1]
  clear hw1 w1
  cases b
  case true =>
    clear hb
    go_wp2_with fail
    refine (HWK.out w0).mono ?_
    rintro e w2 ⟨rfl, hb2⟩
    have HB := Lib.hid (HB0.out.trans (hb2.mono HB0.out.size))
    clear hb2
    go_wp2_with fail
    go_ret
    exact ⟨rfl, HB.out⟩
  case false =>
    obtain ⟨hn3', hf6⟩ := hb rfl
    have hn3 : n ≤ 3001 := by have := HN.out.2; omega
    have HF6 := Lib.hid hf6
    clear hb hn3' hf6
    go_wp2_with fail
    go_loopw [5, 6] (fun s5 s6 wr => ∃ (i c1 : Nat) (A1 : Option Addr) (us : List Value), s5 = .slice A1 i c1 ∧ s6 = .int .i64 (i : Nat) ∧ i ≤ n ∧ wr.ownsRow w0.heap.size 25 1 (.slice A1 i c1) i us ∧ TreesAt wr w0.heap.size us (ls.take i) ∧ Below w0.heap.size w0 wr) (fun _ s6 _ => n - (intOf s6).toNat)
    case atStart => exact ⟨0, 0, none, [], rfl, rfl, by omega, World.ownsRow_nil _ _ _ _, TreesAt.none_ _ _, Below.refl _ _⟩
    case round =>
      obtain ⟨i, c1, A1, us, rfl, rfl, hi, ho, hts, hb⟩ := hrel
      have HI := Lib.hid (And.intro ho (And.intro hts (And.intro hb (HB0.out.trans (hb.mono HB0.out.size)))))
      clear ho hts hb
      by_cases hlt : i < n
      · have hd1 : decide ((i : Int) < (n : Int)) = true := decide_eq_true (by omega)
        obtain ⟨v, hv⟩ : ∃ v, vs[i]? = some v := ⟨_, List.getElem?_eq_getElem (by rw [← HN.out.1]; exact hlt)⟩
        obtain ⟨l, hl⟩ : ∃ l, ls[i]? = some l := ⟨_, List.getElem?_eq_getElem (by rw [← HN.out.2]; exact hlt)⟩
        obtain ⟨b, off, rfl, _, hat⟩ : ∃ b off, P = some ⟨b, off, none⟩ ∧ b < wr.heap.size ∧ ∀ (i : Nat) (v : Value), vs[i]? = some v → wr.cell? ⟨b, off + i, none⟩ = some v := (HPF.out.1.below HI.out.2.2.2).resolve_left (fun h => by rw [h] at hv; simp at hv)
        have c0 := hat i v hv
        obtain ⟨Av, cv, rfl, hrv, _, hcv⟩ := (HPF.out.2.below HI.out.2.2.2).at_ i v l hv hl
        have hll6 : l.length ≤ 6000 := by have := HLL.out i l hl; have := HF6.out; omega
        have HC := Lib.hid (copied_any Av cv l wr hrv (by omega))
        have HTK := Lib.hid (show ls.take (i + 1) = ls.take i ++ [l] from by rw [List.take_add_one, hl]; rfl)
        obtain ⟨ll, hll⟩ : ∃ z, z = l.length := ⟨_, rfl⟩
        rw [← hll] at HC c0
        have HLN := Lib.hid hll
        have hi0 : (0 : Int) ≤ (i : Int) := by omega
        have hin : (i : Int) < (n : Int) := by omega
        clear hat hv hl hrv hcv hll hll6
        go_wp2_with fail
        refine HC.out.mono ?_
        rintro e w3 ⟨⟨A3, c3, rfl, ho3⟩, hb3⟩
        have H3 := Lib.hid (And.intro ho3 (And.intro hb3 (own_below HI.out.1 hb3)))
        have HBS := Lib.hid (Nat.le_trans HI.out.2.2.1.size hb3.size)
        have hib : i ≤ 100000 := by omega
        clear ho3 hb3 c0
        go_wp2_with (at_builtin; refine wpList_app_tree rfl (.tmp 24) (.tmp 30) rfl w0.heap.size w3.heap.size i c1 A1 us A3 ll c3 rfl (H3.out.2.2.alloc _) rfl (heap_alloc_new w3 _) hib (by have := HBS.out; simp; omega) ?_; intro A4 c4 w4 ho4 hg4; have H4 := Lib.hid (And.intro ho4 hg4); clear ho4 hg4)
        go_roundw
        case rel =>
          have hts3 := HI.out.2.1.snoc_below HI.out.2.2.1.size H3.out.2.1 (by have h := H3.out.1; rw [HLN.out] at h; exact h)
          have hts3a := hts3.below ((Below.refl w3.heap.size w3).alloc (Nat.le_refl _) (.cells #[.slice A3 ll c3] 25))
          have hts4 := hts3a.grown_out (H3.out.2.2.alloc (.cells #[.slice A3 ll c3] 25)) H4.out.2
          refine ⟨i + 1, c4, A4, us ++ [.slice A3 ll c3], rfl, by go_num, by omega, H4.out.1, ?_, ?_⟩
          · rw [HTK.out]
            rw [← HLN.out] at hts4
            exact hts4
          · exact ((HI.out.2.2.1.trans (H3.out.2.1.mono HI.out.2.2.1.size)).alloc HBS.out _).grown H4.out.2 (by have := HBS.out; simp; omega) (fun r hr => (World.ownsRow.lt HI.out.1 r hr).1)
        case measure => simp [intOf]; omega
      · have hd1 : decide ((i : Int) < (n : Int)) = false := decide_eq_false (by omega)
        have hie : i = n := by omega
        subst hie
        have HTS : Hid (TreesAt wr w0.heap.size us ls) := by
          have h := HI.out.2.1
          rw [List.take_of_length_le (by have := HN.out.2; omega)] at h
          exact h
        have hul : us.length = i := by have := HTS.out.len; have := HN.out.2; omega
        have HMK0 := HMK.out wr A1 c1 us (RdP.of_own HI.out.1) HTS.out.rdF (by omega)
        rw [hul] at HMK0
        have HMKH := Lib.hid HMK0
        have HUL := Lib.hid hul
        have hxb := HXB.out.below HI.out.2.2.1 HXB.out.lt
        have x0 : wr.cell? ⟨bx, 0, none⟩ = some (.int .u8 (op : Nat)) := hxb.cell 0
        have x1 : wr.cell? ⟨bx, 1, none⟩ = some (.int .i64 kids) := hxb.cell 1
        have x2 : wr.cell? ⟨bx, 2, none⟩ = some (.int .i64 int) := hxb.cell 2
        have x3 : wr.cell? ⟨bx, 3, none⟩ = some (.string text) := hxb.cell 3
        have HXW := Lib.hid hxb
        clear hlt HMK0 hul hxb
        go_wp2_with fail
        refine HMKH.out.mono ?_
        rintro e w2 ⟨⟨A7, n7, c7, rfl, hz7, hnz7⟩, hb2⟩
        obtain ⟨hn7, ho7⟩ := HML.out.2 wr w2 A7 n7 c7 hz7 hnz7
        have H2 := Lib.hid (And.intro hn7 (And.intro ho7 hb2))
        have HB2 := Lib.hid (HI.out.2.2.2.trans (hb2.mono HI.out.2.2.2.size))
        have hxb := HXW.out.below hb2 HXW.out.lt
        clear x0 x1 x2 x3 hz7 hnz7 hn7 ho7 hb2
        have x0 : w2.cell? ⟨bx, 0, none⟩ = some (.int .u8 (op : Nat)) := hxb.cell 0
        have x1 : w2.cell? ⟨bx, 1, none⟩ = some (.int .i64 kids) := hxb.cell 1
        have x2 : w2.cell? ⟨bx, 2, none⟩ = some (.int .i64 int) := hxb.cell 2
        have x3 : w2.cell? ⟨bx, 3, none⟩ = some (.string text) := hxb.cell 3
        have HXW2 := Lib.hid hxb
        have HRM0 := Lib.hid (HRM.out w2 HB2.out (by omega))
        clear hxb
        go_wp2_with fail
        refine HRM0.out.mono ?_
        rintro e w3 ⟨⟨A9, n9, c9, rfl, hz9, hnz9⟩, hb3⟩
        obtain ⟨hn9, ho9⟩ := HML.out.2 w2 w3 A9 n9 c9 hz9 hnz9
        obtain ⟨q, hq⟩ : ∃ q, q = lo.length := ⟨_, rfl⟩
        have hn7 := H2.out.1
        rw [← hq] at hn7 hn9
        subst hn7
        subst hn9
        have H3 := Lib.hid (And.intro ho9 (And.intro (own_below H2.out.2.1 hb3) (And.intro hb3 hq)))
        have HB3 := Lib.hid (HB2.out.trans (hb3.mono HB2.out.size))
        have HTS3 := Lib.hid ((HTS.out.below H2.out.2.2).below hb3)
        have hq8 : n9 ≤ 2048 := by have := HML.out.1; omega
        have HAL := Lib.hid (alike_same A7 A9 c7 c9 n9 lo w3 (RdW.of_own H3.out.2.1 hq) (RdW.of_own ho9 hq) hq (by omega))
        have her : (er != er) = false := by simp
        clear x0 x1 x2 x3 hz9 hnz9 hb3 ho9 hq HRM0
        go_wp2_with fail
        refine HAL.out.mono ?_
        rintro e w4 ⟨rfl, nq, rfl⟩
        have H4 : Hid ((w3.drewN nq).ownsRow wr.heap.size 33 4 (.slice A7 n9 c7) n9 (wcells lo) ∧ (w3.drewN nq).ownsRow w2.heap.size 33 4 (.slice A9 n9 c9) n9 (wcells lo) ∧ TreesAt (w3.drewN nq) w0.heap.size us ls ∧ Blk (w3.drewN nq) bx 33 #[.int .u8 (op : Nat), .int .i64 kids, .int .i64 int, .string text] ∧ Below w.heap.size w (w3.drewN nq) ∧ (w3.drewN nq).ownsRow w0.heap.size 25 1 (.slice A1 i c1) i us ∧ Below w2.heap.size w2 (w3.drewN nq)) := by
          have hb := below_drewN (Below.refl w3.heap.size w3) nq
          exact ⟨own_below H3.out.2.1 hb, own_below H3.out.1 hb, HTS3.out.below hb, (HXW2.out.below H3.out.2.2.1 HXW2.out.lt).below hb ((HXW2.out.below H3.out.2.2.1 HXW2.out.lt).lt), below_drewN HB3.out nq, own_below (own_below (own_below HI.out.1 H2.out.2.2) H3.out.2.2.1) hb, below_drewN H3.out.2.2.1 nq⟩
        have HQ := Lib.hid H3.out.2.2.2
        have HW7 : Hid (∀ g, (Value.slice A7 n9 c7).ownBlock = some g → wr.heap.size ≤ g ∧ g < w2.heap.size) := fun g hg => World.ownsRow.lt H2.out.2.1 g hg
        have HSZ := Lib.hid (And.intro HI.out.2.2.2.size HI.out.2.2.1.size)
        have HTL := Lib.hid (HTS.out.lt)
        have HWA := Lib.hid (And.intro HI.out.1 (And.intro HTS.out (And.intro HXW.out (And.intro HI.out.2.2.2 H2.out.2.2))))
        clear HAL HI H2 HB2 HXW HXW2 H3 HB3 HTS3 HTS HMKH
        generalize w3.drewN nq = w5 at *
        go_wp2_with fail
        obtain ⟨wa, hwa⟩ : ∃ x, x = wr := ⟨_, rfl⟩
        subst hwa
        go_loopw [11] (fun s11 wl => ∃ j : Nat, s11 = .int .i64 (j : Nat) ∧ j ≤ i ∧ Below w5.heap.size w5 wl) (fun s11 _ => i - (intOf s11).toNat)
        case atStart => exact ⟨0, rfl, by omega, Below.refl _ _⟩
        case round =>
          obtain ⟨j, rfl, hj, hb⟩ := hrel
          have HB := Lib.hid hb
          have HBW := Lib.hid (H4.out.2.2.2.2.1.trans (hb.mono H4.out.2.2.2.2.1.size))
          clear hb
          by_cases hlt : j < i
          · have hd2 : decide ((j : Int) < (i : Int)) = true := decide_eq_true (by omega)
            obtain ⟨u, hu⟩ : ∃ u, us[j]? = some u := ⟨_, List.getElem?_eq_getElem (by rw [HUL.out]; exact hlt)⟩
            obtain ⟨v, hv⟩ : ∃ v, vs[j]? = some v := ⟨_, List.getElem?_eq_getElem (by rw [← HN.out.1]; exact hlt)⟩
            obtain ⟨l, hl⟩ : ∃ l, ls[j]? = some l := ⟨_, List.getElem?_eq_getElem (by rw [← HN.out.2]; exact hlt)⟩
            have hown := own_below H4.out.2.2.2.2.2.1 HB.out
            obtain ⟨Au, cu, rfl, hou⟩ := (H4.out.2.2.1.below HB.out).at_ j u l hu hl
            obtain ⟨b, off, rfl, _, hat⟩ : ∃ b off, P = some ⟨b, off, none⟩ ∧ b < wr.heap.size ∧ ∀ (i : Nat) (v : Value), vs[i]? = some v → wr.cell? ⟨b, off + i, none⟩ = some v := (HPF.out.1.below HBW.out).resolve_left (fun h => by rw [h] at hv; simp at hv)
            have c0 := hat j v hv
            obtain ⟨Av, cv, rfl, hrv, _, hcv⟩ := (HPF.out.2.below HBW.out).at_ j v l hv hl
            obtain ⟨g6, cap6, hv6, _, _⟩ := hown.form (by omega)
            have hA6 : A1 = some ⟨g6, 0, none⟩ := by injection hv6
            subst hA6
            have d0 : wr.cell? ⟨g6, j, none⟩ = some (.slice Au l.length cu) := by
              have := hown.cells (g := g6) rfl j _ hu
              rw [addr_add, Nat.zero_add] at this
              exact this
            have HRU := Lib.hid (RdW.of_own hou rfl)
            have HRV := Lib.hid hrv
            have hlb : l.length ≤ 1000000 := by
              have h2 := HLL.out j l hl
              have := HF6.out
              omega
            have HALL := Lib.hid (fun q => alike_same Au Av cu cv l.length l (wr.drewN q) (HRU.out.below (below_drewN (Below.refl _ wr) q)) (HRV.out.below (below_drewN (Below.refl _ wr) q)) rfl hlb)
            generalize l.length = ll at c0 d0 HALL
            have hi0 : (0 : Int) ≤ (j : Int) := by omega
            have hin : (j : Int) < (i : Int) := by omega
            clear hu hv hl hown hou hat hrv hcv hv6 hlb
            go_wp2_with fail
            go_quiet (refine Calls.quiet_of (HALL.out _))
            have HBN := Lib.hid (below_drewN HB.out nq)
            clear HALL c0 d0
            go_wp2_with fail
            go_roundw
            case rel => exact ⟨j + 1, by go_num, by omega, HBN.out⟩
            case measure => simp [intOf]; omega
          · have hd2 : decide ((j : Int) < (i : Int)) = false := decide_eq_false (by omega)
            have H5 : Hid (wr.ownsRow wa.heap.size 33 4 (.slice A7 n9 c7) n9 (wcells lo) ∧ wr.ownsRow w2.heap.size 33 4 (.slice A9 n9 c9) n9 (wcells lo) ∧ Below w2.heap.size w2 wr) := ⟨own_below H4.out.1 HB.out, own_below H4.out.2.1 HB.out, H4.out.2.2.2.2.2.2.trans (HB.out.mono H4.out.2.2.2.2.2.2.size)⟩
            have hW7 := HW7.out
            go_wp2_with fail
            obtain ⟨wc, hwc⟩ : ∃ x, x = wr := ⟨_, rfl⟩
            subst hwc
            go_loopw [12] (fun s12 wl => ∃ (j : Nat) (xs : List Value), s12 = .int .i64 (j : Nat) ∧ j ≤ n9 ∧ wl.ownsRow wa.heap.size 33 4 (.slice A7 n9 c7) n9 xs ∧ wl.ownsRow w2.heap.size 33 4 (.slice A9 n9 c9) n9 (wcells lo) ∧ Below wa.heap.size wa wl) (fun s12 _ => n9 - (intOf s12).toNat)
            case atStart => exact ⟨0, _, rfl, by omega, H5.out.1, H5.out.2.1, HWA.out.2.2.2.2.trans (H5.out.2.2.mono HWA.out.2.2.2.2.size)⟩
            case round =>
              obtain ⟨j2, xs, rfl, hj2, ho7, ho9, hb7⟩ := hrel
              have H6 := Lib.hid (And.intro ho7 (And.intro ho9 hb7))
              clear ho7 ho9 hb7
              by_cases hlt2 : j2 < n9
              · have hd3 : decide ((j2 : Int) < (n9 : Int)) = true := decide_eq_true (by omega)
                obtain ⟨g7, cap7, hv7, _, hlt7⟩ := H6.out.1.form (by omega)
                have hA7 : A7 = some ⟨g7, 0, none⟩ := by injection hv7
                subst hA7
                have hi0 : (0 : Int) ≤ (j2 : Int) := by omega
                have hin : (j2 : Int) < (n9 : Int) := by omega
                have hfz : wr.frozen? ⟨g7, 0, none⟩ = false := World.ownsRow.frozenAt H6.out.1 _
                clear hv7
                have HTH := Lib.hid (own_there H6.out.1 hlt2)
                obtain ⟨xs', ho7, hch⟩ := own_setCells [.int .u8 99, .int .i64 0, .int .i64 0, .string noText] (j2 * 4) wr xs H6.out.1
                have H7 := Lib.hid (And.intro ho7 hch)
                have hgg := HW7.out g7 rfl
                clear ho7 hch
                go_wp2_with (refine wpList_store_mid rfl 33 (.tmp 78) (.tmp 77) rfl g7 (j2 * 4) #[.int .u8 99, .int .i64 0, .int .i64 0, .string noText] rfl rfl HTH.out (by kernel_rfl) one99 ?_)
                go_roundw
                case rel => exact ⟨j2 + 1, xs', by go_num, by omega, H7.out.1, own_chg H6.out.2.1 H7.out.2 (fun g hg h => by have h1 := World.ownsRow.lt H6.out.2.1 g hg; have h2 := hgg.2; omega), Chg.below H6.out.2.2 H7.out.2 H6.out.2.2.size (fun k hk => by rw [hk]; exact hgg.1)⟩
                case measure => simp [intOf]; omega
              · have hd3 : decide ((j2 : Int) < (n9 : Int)) = false := decide_eq_false (by omega)
                have hmk := HMK.out wr A1 c1 us (RdP.of_own (own_below HWA.out.1 H6.out.2.2)) (HWA.out.2.1.below H6.out.2.2).rdF (by have := HUL.out; omega)
                rw [HUL.out] at hmk
                have HM2 := Lib.hid hmk
                have hxb := HWA.out.2.2.1.below H6.out.2.2 HWA.out.2.2.1.lt
                have x0 : wr.cell? ⟨bx, 0, none⟩ = some (.int .u8 (op : Nat)) := hxb.cell 0
                have x1 : wr.cell? ⟨bx, 1, none⟩ = some (.int .i64 kids) := hxb.cell 1
                have x2 : wr.cell? ⟨bx, 2, none⟩ = some (.int .i64 int) := hxb.cell 2
                have x3 : wr.cell? ⟨bx, 3, none⟩ = some (.string text) := hxb.cell 3
                have HBE := Lib.hid (HWA.out.2.2.2.1.trans (H6.out.2.2.mono HWA.out.2.2.2.1.size))
                clear hmk hxb HMK
                go_wp2_with fail
                refine HM2.out.mono ?_
                rintro e w8 ⟨⟨A13, n13, c13, rfl, hz8, hnz8⟩, hb8⟩
                obtain ⟨hn13, ho13⟩ := HML.out.2 wr w8 A13 n13 c13 hz8 hnz8
                have hnn : n13 = n9 := by have := HQ.out; omega
                have hal := alike_same A13 A9 c13 c9 n13 lo w8 (RdW.of_own ho13 hn13) (RdW.of_own (own_below H6.out.2.1 hb8) HQ.out) hn13 (by omega)
                have HB8 := Lib.hid (HBE.out.trans (hb8.mono HBE.out.size))
                clear hz8 hnz8 hn13 ho13 hb8 x0 x1 x2 x3 HM2
                subst hnn
                have HAL2 := Lib.hid hal
                clear hal
                go_wp2_with fail
                refine HAL2.out.mono ?_
                rintro e w9 ⟨rfl, nq2, rfl⟩
                have HB9 := Lib.hid (below_drewN HB8.out nq2)
                clear HAL2
                generalize w8.drewN nq2 = w9 at *
                go_wp2_with fail
                refine (HWK.out w9).mono ?_
                rintro e w10 ⟨rfl, hb10⟩
                have HBF := Lib.hid (HB9.out.trans (hb10.mono HB9.out.size))
                clear hb10
                go_wp2_with fail
                go_ret
                exact ⟨rfl, HBF.out⟩
end Go.Proofs.Ytpdofcjgpomehaa
