/- The walk of prompterlaw08.TreeBack: it returns true. -/
import Derived.Test.YtpdofcjgpomehaaOpn
namespace Go.Proofs.Ytpdofcjgpomehaa
open Go.RowKit

mutual
theorem ok_mono : ∀ (t : Tr) (may may' : Nat → Bool), t.ok may → (∀ op, may op = true → may' op = true) → t.ok may'
  | .node x ks, may, may', h, hm => by
    rw [Tr.ok] at h ⊢
    refine ⟨?_, h.2⟩
    have h1 := h.1
    unfold fineB at h1 ⊢
    split at h1
    · cases h1
    · rw [Bool.and_eq_true] at h1 ⊢
      exact ⟨hm _ h1.1, h1.2⟩
end
theorem oks_right : ∀ (ks : List Tr) (x : Tw) (i : Nat), oks x i ks → ∀ k ∈ ks, Right k.flat k
  | [], _, _, _, k, hk => by cases hk
  | k0 :: ks, x, i, h, k, hk => by
    rw [oks] at h
    rcases List.mem_cons.1 hk with rfl | hk
    · exact ⟨ok_mono _ _ _ h.1 (fun _ _ => rfl), rfl⟩
    · exact oks_right ks x (i + 1) h.2 k hk
theorem depths_snoc : ∀ (ks : List Tr) (k : Tr), depths (ks ++ [k]) = max (depths ks) k.depth
  | [], k => by simp [depths]
  | k0 :: ks, k => by rw [List.cons_append, depths, depths, depths_snoc ks k]; omega
theorem depths_app : ∀ (a b : List Tr), depths (a ++ b) = max (depths a) (depths b)
  | [], b => by simp [depths]
  | k0 :: a, b => by rw [List.cons_append, depths, depths, depths_app a b]; omega
theorem depth_le : ∀ {ks : List Tr} {k : Tr}, k ∈ ks → k.depth ≤ depths ks
  | k0 :: ks, k, h => by
    rw [depths]
    rcases List.mem_cons.1 h with rfl | h
    · omega
    · have := depth_le h; omega
theorem flats_flatten : ∀ ks : List Tr, flats ks = (ks.map Tr.flat).flatten
  | [] => rfl
  | k :: ks => by rw [flats, List.map_cons, List.flatten_cons, flats_flatten ks]
theorem flat_le : ∀ {ks : List Tr} {k : Tr}, k ∈ ks → k.flat.length ≤ (flats ks).length
  | k0 :: ks, k, h => by
    rw [flats, List.length_append]
    rcases List.mem_cons.1 h with rfl | h
    · omega
    · have := flat_le h; omega
theorem flat_mem : ∀ {ks : List Tr} {k : Tr}, k ∈ ks → ∀ x ∈ k.flat, x ∈ flats ks
  | k0 :: ks, k, h, x, hx => by
    rw [flats, List.mem_append]
    rcases List.mem_cons.1 h with rfl | h
    · exact .inl hx
    · exact .inr (flat_mem h x hx)
theorem own_cap2 {w : World} {base : Nat} {e : TypeId} {size n c : Nat} {A : Option Addr} {xs : List Value} (h : w.ownsRow base e size (.slice A n c) n xs) : c ≤ 9223372036854775807 := by
  rcases h.2 with ⟨h1, h0⟩ | ⟨g, cap, cur, h1, _, _, hc, hm, _⟩
  · injection h1 with h1 h2 h3
    omega
  · injection h1 with h1 h2 h3
    unfold maxLen at hm
    omega
theorem RdP.of_own {w : World} {base n c : Nat} {A : Option Addr} {vs : List Value} (h : w.ownsRow base 25 1 (.slice A n c) n vs) : RdP w A vs := by
  have hl : vs.length = n := by have := h.1; omega
  rcases Nat.eq_zero_or_pos n with h0 | h0
  · exact .inl (List.eq_nil_of_length_eq_zero (by omega))
  · obtain ⟨g, cap, hv, hb, hlt⟩ := h.form h0
    have hA : A = some ⟨g, 0, none⟩ := by injection hv
    subst hA
    refine .inr ⟨g, 0, rfl, hlt, fun i v hv => ?_⟩
    have := h.cells (g := g) rfl i v hv
    rw [addr_add] at this
    exact this
theorem TreesAt.rdF {w : World} {base : Nat} {vs : List Value} {ls : List (List Tw)} (h : TreesAt w base vs ls) : RdF w vs ls :=
  ⟨h.len, fun i v l hv hl => by
    obtain ⟨A, c, rfl, ho⟩ := h.at_ i v l hv hl
    refine ⟨A, c, rfl, RdW.of_own ho rfl, fun a ha _ => ?_, own_cap ho, own_cap2 ho⟩
    rw [ha] at ho
    exact (World.ownsRow.lt ho a.block rfl).2⟩
/-- What a right tree's twigs are made of, put together again. -/
theorem make_back {x : Tw} {ks : List Tr} {l : List Tw} (hT : Right l (.node x ks)) (hd : (Tr.node x ks).depth ≤ 40) (hlen : l.length ≤ 2048) : outOf x (ks.map Tr.flat) = l ∧ mkErr x (ks.map Tr.flat) = 0 := by
  have hok := hT.1
  rw [Tr.ok] at hok
  have e1 : outOf x (ks.map Tr.flat) = l := by
    unfold outOf topOf
    rw [← hT.2, Tr.flat, flats_flatten, List.length_map, ← hok.2.1]
  refine ⟨e1, ?_⟩
  unfold mkErr
  have hfb : firstBad (ks.map Tr.flat) = 0 := firstBad_no (fun l2 hl2 => by
    obtain ⟨k, hk, rfl⟩ := List.mem_map.1 hl2
    refine chk_fine.2 ⟨?_, k, oks_right ks x 0 hok.2.2 k hk, ?_⟩
    · have h1 := flat_le hk
      have h2 := hT.2
      rw [Tr.flat] at h2
      rw [← h2, List.length_cons] at hlen
      omega
    · have := depth_le hk
      rw [Tr.depth] at hd
      omega)
  rw [if_pos hfb, e1, if_neg (by omega), chk_right hT hlen, if_pos hd]
set_option maxRecDepth 100000 in
set_option maxHeartbeats 8000000 in
theorem treeBack_walk (A : Option Addr) (c : Nat) (l : List Tw) (w : World) (hok : ∀ x ∈ l, TwOk x) (hrd : RdW w A l) (hcap : l.length ≤ c ∧ c ≤ 9223372036854775807) (hA : ∀ a, A = some a → l ≠ [] → a.block < w.heap.size) :
    Calls Try.prog 6 #[.slice A l.length c] w fun e w' => e = .returned (.bool true) ∧ Below w.heap.size w w' := by
  have HWK := Lib.hid (fun W => wakes_any W)
  have HCH := Lib.hid (fun W (hb : Below w.heap.size w W) => check_any A c l W hok (hrd.below hb) (by omega) (fun a ha hl => Nat.lt_of_lt_of_le (hA a ha hl) hb.size))
  obtain ⟨n, hn⟩ : ∃ n, n = l.length := ⟨_, rfl⟩
  by_cases hlong : 5000 < n
  · rw [← hn] at hcap HCH ⊢
    have hd1 : decide ((5000 : Int) < (n : Int)) = true := decide_eq_true (by omega)
    have hn9 : n ≤ 9223372036854775807 := by omega
    clear hok hrd hA hn hcap
    go_enter Try.func6, Try.ntmps6
    go_wp2_with fail
    refine (HWK.out w).mono ?_
    rintro e w2 ⟨rfl, hb2⟩
    have HB := Lib.hid hb2
    clear hb2
    go_wp2_with fail
    go_ret
    exact ⟨rfl, HB.out⟩
  · have hd1 : decide ((5000 : Int) < (n : Int)) = false := decide_eq_false (by omega)
    by_cases her : (chk l).2 = 0
    · obtain ⟨hlen8, T, hT, hd⟩ := chk_fine.1 her
      obtain ⟨x, ks⟩ := T
      have HPO := Lib.hid (parts_any x ks A c l w hT hd hok hrd hlen8 hcap hA)
      have HDO := Lib.hid (fun W (hb : Below w.heap.size w W) => Depth_ok (.node x ks) A c l W hT hd hok (hrd.below hb) hlen8 (fun a ha hl => Nat.lt_of_lt_of_le (hA a ha hl) hb.size))
      have hx0 : l[0]? = some x := by rw [← hT.2, Tr.flat]; rfl
      have hkd : x.kids = (ks.length : Nat) := by have := hT.1; rw [Tr.ok] at this; exact this.2.1
      have hckr : ∀ k ∈ ks, Right k.flat k := by have := hT.1; rw [Tr.ok] at this; exact oks_right ks x 0 this.2.2
      have hlfl : l = x :: flats ks := by rw [← hT.2, Tr.flat]
      have HMB := Lib.hid (make_back hT hd hlen8)
      obtain ⟨b, off, rfl, hbl, hat⟩ := hrd.resolve_left (fun h => by rw [h] at hx0; simp at hx0)
      have HTW : Hid (∀ W, Below w.heap.size w W → TwAt W b off x) := fun W hW => by
        have h := (hat 0 x hx0).of_block (hW.block b hbl)
        rw [Nat.zero_mul, Nat.add_zero] at h
        exact h
      have HRL := Lib.hid hrd
      have HKS := Lib.hid (And.intro hckr (And.intro hlfl (And.intro hkd hok)))
      have HDP := Lib.hid (show ∀ k ∈ ks, k.depth ≤ 40 from fun k hk => by have := depth_le hk; rw [Tr.depth] at hd; omega)
      have HDT := Lib.hid (show (Tr.node x ks).depth = depths ks + 1 from by rw [Tr.depth])
      have hd9 : depths ks ≤ 40 := by rw [Tr.depth] at hd; omega
      obtain ⟨q, hq⟩ : ∃ q, q = ks.length := ⟨_, rfl⟩
      have hq8 : q ≤ 2048 := by
        rw [hq]
        have := len_flats ks
        rw [hlfl, List.length_cons] at hlen8
        omega
      have HQ := Lib.hid hq
      have htw0 := hok x (List.mem_of_getElem? hx0)
      have HX0 := Lib.hid htw0
      rw [HDT.out] at HDO
      rw [← hn] at hcap HCH HPO HDO ⊢
      obtain ⟨hc1, hc2⟩ := hcap
      have hpos : 0 < n := by rw [hn, hlfl]; simp
      have hn8 : n ≤ 2048 := by omega
      have HN := Lib.hid hn
      have HCK : Hid ((chk l).2 = 0) := her
      obtain ⟨ck, hck⟩ : ∃ z, z = chk l := ⟨_, rfl⟩
      rw [← hck] at HCH HCK
      obtain ⟨ca, ce⟩ := ck
      have hce0 : ce = 0 := HCK.out
      subst hce0
      dsimp only at HCH
      clear hok hrd hA hn hT hd hckr hlfl her hat hx0 hck hlen8 HCK htw0 hq
      rw [← HQ.out] at hkd
      go_enter Try.func6, Try.ntmps6
      go_wp2_with fail
      refine HPO.out.mono ?_
      rintro e w2 ⟨A2, c2, vs, rfl, hown, hts, hb2⟩
      rw [List.length_map, ← HQ.out] at hown ⊢
      have H2 := Lib.hid (And.intro hown (And.intro hts hb2))
      clear hown hts hb2
      go_wp2_with fail
      refine (HCH.out w2 H2.out.2.2).mono ?_
      rintro e w3 ⟨rfl, hb3⟩
      have H3 : Hid (w3.ownsRow w.heap.size 25 1 (.slice A2 q c2) q vs ∧ TreesAt w3 w.heap.size vs (ks.map Tr.flat) ∧ Below w.heap.size w w3) := ⟨own_below H2.out.1 hb3, H2.out.2.1.below hb3, H2.out.2.2.trans (hb3.mono H2.out.2.2.size)⟩
      clear hb3 H2
      go_wp2_with fail
      go_loopw [7, 8] (fun s7 s8 wr => ∃ i : Nat, s8 = .int .i64 (i : Nat) ∧ s7 = .int .i64 (depths (ks.take i) : Nat) ∧ i ≤ q ∧ Below w3.heap.size w3 wr) (fun _ s8 _ => q - (intOf s8).toNat)
      case atStart => exact ⟨0, rfl, rfl, by omega, Below.refl _ _⟩
      case round =>
        obtain ⟨i, rfl, rfl, hi, hb⟩ := hrel
        have HW : Hid (wr.ownsRow w.heap.size 25 1 (.slice A2 q c2) q vs ∧ TreesAt wr w.heap.size vs (ks.map Tr.flat) ∧ Below w.heap.size w wr) := ⟨own_below H3.out.1 hb, H3.out.2.1.below hb, H3.out.2.2.trans (hb.mono H3.out.2.2.size)⟩
        have HB := Lib.hid hb
        clear hb
        by_cases hlt : i < q
        · have hd2 : decide ((i : Int) < (q : Int)) = true := decide_eq_true (by omega)
          obtain ⟨k, hk⟩ : ∃ k, ks[i]? = some k := ⟨_, List.getElem?_eq_getElem (by rw [← HQ.out]; exact hlt)⟩
          have hvl : vs.length = q := by have := HW.out.1.1; omega
          obtain ⟨v, hv⟩ : ∃ v, vs[i]? = some v := ⟨_, List.getElem?_eq_getElem (by rw [hvl]; exact hlt)⟩
          obtain ⟨Ak, ckp, rfl, hok⟩ := HW.out.2.1.at_ i v k.flat hv (by rw [List.getElem?_map, hk]; rfl)
          obtain ⟨g2, cap2, hv2, hg2, hlt2⟩ := HW.out.1.form (by omega)
          have hA2 : A2 = some ⟨g2, 0, none⟩ := by injection hv2
          subst hA2
          have c0 : wr.cell? ⟨g2, i, none⟩ = some (.slice Ak k.flat.length ckp) := by
            have := HW.out.1.cells (g := g2) rfl i _ hv
            rw [addr_add, Nat.zero_add] at this
            exact this
          have hmem := List.mem_of_getElem? hk
          have hfl := flat_le hmem
          have HDK := Lib.hid (Depth_ok k Ak ckp k.flat wr (HKS.out.1 k hmem) (HDP.out k hmem) (fun y hy => HKS.out.2.2.2 y (by rw [HKS.out.2.1]; exact List.mem_cons_of_mem _ (flat_mem hmem y hy))) (RdW.of_own hok rfl) (by have h1 := HKS.out.2.1; have h2 := HN.out; rw [h1, List.length_cons] at h2; omega) (fun a ha _ => by
            rw [ha] at hok
            exact (World.ownsRow.lt hok a.block rfl).2))
          have HSN := Lib.hid (show depths (ks.take (i + 1)) = max (depths (ks.take i)) k.depth from by rw [List.take_add_one, hk]; exact depths_snoc _ _)
          have hdk := HDP.out k hmem
          have hdl : depths (ks.take i) ≤ 40 := by
            have h1 : depths ks = max (depths (ks.take i)) (depths (ks.drop i)) := by
              conv => lhs; rw [← List.take_append_drop i ks]
              exact depths_app _ _
            omega
          have hi0 : (0 : Int) ≤ (i : Int) := by omega
          have hiq : (i : Int) < (q : Int) := by omega
          obtain ⟨kl, hkl⟩ : ∃ z, z = k.flat.length := ⟨_, rfl⟩
          rw [← hkl] at c0 HDK
          obtain ⟨dm, hdm⟩ : ∃ z, z = depths (ks.take i) := ⟨_, rfl⟩
          rw [← hdm] at HSN hdl ⊢
          obtain ⟨dk, hdkk⟩ : ∃ z, z = k.depth := ⟨_, rfl⟩
          rw [← hdkk] at HSN HDK hdk
          clear hk hvl hv hok hv2 hg2 hlt2 hmem hfl hkl hdm hdkk
          by_cases hmx : (dm : Int) < (dk : Int)
          · have HMX := Lib.hid (show max dm dk = dk from by omega)
            go_wp2_with fail
            refine HDK.out.mono ?_
            rintro e w4 ⟨rfl, hb4⟩
            have HB4 := Lib.hid (HB.out.trans (hb4.mono HB.out.size))
            clear hb4
            go_wp2_with fail
            go_roundw
            case rel => exact ⟨i + 1, by go_num, by rw [HSN.out, HMX.out], by omega, HB4.out⟩
            case measure => simp [intOf]; omega
          · have hmx2 : (dk : Int) ≤ (dm : Int) := by omega
            have HMX := Lib.hid (show max dm dk = dm from by omega)
            go_wp2_with fail
            refine HDK.out.mono ?_
            rintro e w4 ⟨rfl, hb4⟩
            have HB4 := Lib.hid (HB.out.trans (hb4.mono HB.out.size))
            clear hb4
            go_wp2_with fail
            go_roundw
            case rel => exact ⟨i + 1, by go_num, by rw [HSN.out, HMX.out], by omega, HB4.out⟩
            case measure => simp [intOf]; omega
        · have hd2 : decide ((i : Int) < (q : Int)) = false := decide_eq_false (by omega)
          have hiq : i = q := by omega
          have htk : ks.take i = ks := List.take_of_length_le (by rw [← HQ.out]; omega)
          rw [htk]
          obtain ⟨op, kids, int, text⟩ := x
          dsimp only at hkd
          subst hkd
          have ht := HTW.out wr HW.out.2.2
          obtain ⟨c0, c1, c2', c3⟩ := ht
          dsimp only at c0 c1 c2' c3
          have hvl : vs.length = q := by have := HW.out.1.1; omega
          have HMK := Lib.hid (make_any ⟨op, (q : Nat), int, text⟩ A2 c2 vs (ks.map Tr.flat) wr HX0.out (fun l2 hl2 y hy => by
            obtain ⟨k, hk, rfl⟩ := List.mem_map.1 hl2
            exact HKS.out.2.2.2 y (by rw [HKS.out.2.1]; exact List.mem_cons_of_mem _ (flat_mem hk y hy))) (RdP.of_own HW.out.1) HW.out.2.1.rdF (by omega) (fun l2 hl2 => by
            obtain ⟨k, hk, rfl⟩ := List.mem_map.1 hl2
            have h1 := flat_le hk
            have h2 := HKS.out.2.1
            have h3 := HN.out
            rw [h2, List.length_cons] at h3
            omega))
          rw [hvl] at HMK
          dsimp only [twCells] at HMK
          obtain ⟨dd, hdd⟩ : ∃ z, z = depths ks := ⟨_, rfl⟩
          rw [← hdd] at HDO hd9 ⊢
          clear hdd htk hiq hvl
          go_wp2_with fail
          refine HMK.out.mono ?_
          rintro e w5 ⟨⟨A5, n5, c5, rfl, hz5, _⟩, hb5⟩
          have hme : mkErr ⟨op, (q : Nat), int, text⟩ (ks.map Tr.flat) = 0 := HMB.out.2
          obtain ⟨hn5, ho5⟩ := hz5 hme
          have hout : outOf ⟨op, (q : Nat), int, text⟩ (ks.map Tr.flat) = l := HMB.out.1
          rw [hout, ← HN.out] at hn5
          rw [hout] at ho5
          subst hn5
          rw [hme]
          have HB5 := Lib.hid (HW.out.2.2.trans (hb5.mono HW.out.2.2.size))
          have HAL := Lib.hid (alike_same A5 (some ⟨b, off, none⟩) c5 c n5 l w5 (RdW.of_own ho5 HN.out) (HRL.out.below HB5.out) HN.out (by omega))
          clear hz5 hme ho5 hout hb5 HMK
          go_wp2_with fail
          refine HAL.out.mono ?_
          rintro e w6 ⟨rfl, q6, hw6⟩
          rw [hw6]
          have HB6 := Lib.hid (below_drewN HB5.out q6)
          clear hw6 HAL
          generalize w5.drewN q6 = w7 at *
          go_wp2_with fail
          refine (HDO.out w7 HB6.out).mono ?_
          rintro e w8 ⟨rfl, hb8⟩
          have HB8 := Lib.hid (HB6.out.trans (hb8.mono HB6.out.size))
          clear hb8
          obtain ⟨d0, d1, d2, d3⟩ := HTW.out w8 HB8.out
          dsimp only at d0 d1 d2 d3
          have hee : (((dd + 1 : Nat) : Int) == (dd : Int) + 1) = true := by rw [beq_iff_eq]; omega
          have hkk : ((n5 : Int) == (n5 : Int)) = true := by simp
          have hqq : ((q : Int) == (q : Int)) = true := by simp
          go_wp2_with fail
          refine (HWK.out w8).mono ?_
          rintro e w9 ⟨rfl, hb9⟩
          have HB9 := Lib.hid (HB8.out.trans (hb9.mono HB8.out.size))
          clear hb9
          go_wp2_with fail
          go_ret
          exact ⟨rfl, HB9.out⟩
    · have HPB := Lib.hid (parts_bad A c l w her hok hrd (by omega) hA)
      have HDB := Lib.hid (fun W (hb : Below w.heap.size w W) => Depth_bad A c l W her hok (hrd.below hb) (by omega) (fun a ha hl => Nat.lt_of_lt_of_le (hA a ha hl) hb.size))
      rw [← hn] at hcap HCH HPB HDB ⊢
      obtain ⟨ck, hck⟩ : ∃ z, z = chk l := ⟨_, rfl⟩
      rw [← hck] at HPB HCH her
      have hne : (ck.2 != 0) = true := by rw [bne_iff_ne]; exact her
      obtain ⟨hc1, hc2⟩ := hcap
      have hn9 : n ≤ 5000 := by omega
      clear hok hrd hA hn hck her hc1 hlong
      obtain ⟨ca, ce⟩ := ck
      dsimp only at HPB HCH hne
      have hee : (ce != ce) = false := by simp
      go_enter Try.func6, Try.ntmps6
      go_wp2_with fail
      refine HPB.out.mono ?_
      rintro e w2 ⟨rfl, hb2⟩
      have HB2 := Lib.hid hb2
      clear hb2
      go_wp2_with fail
      refine (HCH.out w2 HB2.out).mono ?_
      rintro e w3 ⟨rfl, hb3⟩
      have HB3 := Lib.hid (HB2.out.trans (hb3.mono HB2.out.size))
      clear hb3
      go_wp2_with fail
      refine (HDB.out w3 HB3.out).mono ?_
      rintro e w4 ⟨rfl, hb4⟩
      have HB4 := Lib.hid (HB3.out.trans (hb4.mono HB3.out.size))
      clear hb4
      go_wp2_with fail
      refine (HWK.out w4).mono ?_
      rintro e w5 ⟨rfl, hb5⟩
      have HB5 := Lib.hid (HB4.out.trans (hb5.mono HB4.out.size))
      clear hb5
      go_wp2_with fail
      go_ret
      exact ⟨rfl, HB5.out⟩
end Go.Proofs.Ytpdofcjgpomehaa
