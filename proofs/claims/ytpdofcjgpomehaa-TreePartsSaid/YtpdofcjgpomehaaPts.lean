/- The walk of prompterlaw08.TreeParts: it returns true. -/
import Derived.Test.YtpdofcjgpomehaaRpt
import Derived.Test.YtpdofcjgpomehaaRcy
namespace Go.Proofs.Ytpdofcjgpomehaa
open Go.RowKit

/-- What either Parts leaves. -/
def PPost (w : World) (ls : List (List Tw)) (er : Int) (e : Ending) (w' : World) : Prop :=
  ∃ A' c' vs, e = .returned (.tuple #[.slice A' ls.length c', .int .i64 er]) ∧ w'.ownsRow w.heap.size 25 1 (.slice A' ls.length c') ls.length vs ∧ TreesAt w' w.heap.size vs ls ∧ Below w.heap.size w w'
theorem parts_both (l : List Tw) (hok : ∀ x ∈ l, TwOk x) (hlen : l.length ≤ 9223372036854775807) :
    ∃ (ls : List (List Tw)) (er : Int), ls.length ≤ 100000 ∧ (∀ t ∈ ls, t.length ≤ 90000) ∧ ∀ (W : World) (A : Option Addr) (c : Nat), RdW W A l → l.length ≤ c → c ≤ 9223372036854775807 → (∀ a, A = some a → l ≠ [] → a.block < W.heap.size) →
      Calls Try.prog 14 #[.slice A l.length c] W (PPost W ls er) ∧ Calls Try.prog 15 #[.slice A l.length c] W (PPost W ls er) := by
  by_cases hz : (chk l).2 = 0
  · obtain ⟨hl, ⟨x, ks⟩, hT, hd⟩ := chk_fine.1 hz
    have hfl : (flats ks).length ≤ l.length := by rw [← hT.2, Tr.flat, List.length_cons]; omega
    refine ⟨ks.map Tr.flat, 0, ?_, ?_, fun W A c hrd h1 h2 h3 => ⟨?_, ?_⟩⟩
    · rw [List.length_map]; have := len_flats ks; omega
    · intro t ht
      obtain ⟨k, hk, rfl⟩ := List.mem_map.1 ht
      have := flat_le hk
      omega
    · exact parts_any x ks A c l W hT hd hok hrd hl ⟨h1, h2⟩ h3
    · exact refParts_any x ks A c l W hT hd hok hrd hl ⟨h1, h2⟩
  · refine ⟨[], (chk l).2, by simp, (fun t ht => by cases ht), fun W A c hrd h1 h2 h3 => ⟨?_, ?_⟩⟩
    · refine (parts_bad A c l W hz hok hrd hlen h3).mono ?_
      rintro e w' ⟨rfl, hb⟩
      exact ⟨none, 0, [], rfl, World.ownsRow_nil _ _ _ _, TreesAt.none_ _ _, hb⟩
    · refine (refParts_bad A c l W hz hok hrd hlen h3).mono ?_
      rintro e w' ⟨rfl, hb⟩
      exact ⟨none, 0, [], rfl, World.ownsRow_nil _ _ _ _, TreesAt.none_ _ _, hb⟩
/-- The trees from number i on are as they were. -/
def TailAt (w : World) (base : Nat) (vs : List Value) (ls : List (List Tw)) (i : Nat) : Prop :=
  ∀ (j : Nat) (v : Value) (t : List Tw), i ≤ j → vs[j]? = some v → ls[j]? = some t → ∃ A c, v = .slice A t.length c ∧ w.ownsRow base 33 4 v t.length (wcells t)
theorem TailAt.chg {w w' : World} {base i i' : Nat} {vs : List Value} {ls : List (List Tw)} {T : Nat → Prop} (h : TailAt w base vs ls i) (hi : i ≤ i') (hc : Chg T w w') (hn : ∀ (j : Nat) (v : Value), i' ≤ j → vs[j]? = some v → ∀ g, v.ownBlock = some g → ¬ T g) : TailAt w' base vs ls i' := by
  intro j v t hj hv ht
  obtain ⟨A, c, rfl, ho⟩ := h j v t (Nat.le_trans hi hj) hv ht
  exact ⟨A, c, rfl, own_chg ho hc (hn j _ hj hv)⟩
/-- 'append(l, Twig{..}, Twig{..})' onto a row of whatever. -/
theorem wpList_app_two {ops : Array Oper} {rest : List Oper} {o : Oper} {a : Act} {W : World} {Q : Exit → Act → World → Prop} (hgd : o.guard = none) (sl x : Operand)
    (ho : o.op = .call { callee := .builtin .append, args := #[sl, x], argTypes := #[25, 25] }) (base n cap m g : Nat) (A : Option Addr) (xs news : List Value)
    (hs : a.eval sl = .slice A n cap) (hown : W.ownsRow base 33 4 (.slice A n cap) n xs) (hx : a.eval x = .slice (some ⟨g, 0, none⟩) m m) (hg : W.heap[g]? = some (.cells news.toArray 33 (0, 0)))
    (hnl : news.length = m * 4) (hn1 : ∀ u ∈ news, u.oneCell' = true) (hm : 0 < m) (hb : n + m ≤ 100000) (hbase : base ≤ W.heap.size)
    (h : ∀ A' c' W', W'.ownsRow base 33 4 (.slice A' (n + m) c') (n + m) (xs ++ news) → W.grownBy W' (Value.slice A n cap).ownBlock → ((Value.slice A' (n + m) c').ownBlock = (Value.slice A n cap).ownBlock ∨ (Value.slice A' (n + m) c').ownBlock = some W.heap.size) → wpList Try.prog ops Q rest (a.put o.dst (.slice A' (n + m) c')) W') :
    wpList Try.prog ops Q (o :: rest) a W := by
  obtain ⟨i0, hi0, hz0, hz1, hz2⟩ := info_parts Try.info33
  refine wpList_append_any W hgd sl x 25 ho base 33 i0 (.agg #[.int .u8 0, .int .i64 0, .int .i64 0, .string ⟨#[]⟩]) 4 40 Try.underlying25 hi0 hz0 hz1 hz2 rfl (by decide) (.slice A n cap) n xs hs hown (g + 1) (some ⟨g, 0, none⟩) m m news hx ⟨hnl, fun _ => ⟨_, rfl, Nat.lt_succ_self g, news_of_blk hg⟩⟩ hn1 (by unfold maxLen; omega) (by omega) hbase ?_
  intro v3 w3 ho3 hg3 hv3
  obtain ⟨A3, c3, rfl, _⟩ := own_form ho3
  exact h A3 c3 w3 ho3 hg3 hv3
theorem row_cell {w : World} {base n cap g i : Nat} {e : TypeId} {u : Value} {xs : List Value} (h : w.ownsRow base e 1 (.slice (some ⟨g, 0, none⟩) n cap) n xs) (hu : xs[i]? = some u) : w.cell? ⟨g, i, none⟩ = some u := by
  have h2 := h.cells (g := g) rfl i _ hu
  rw [addr_add, Nat.zero_add] at h2
  exact h2
theorem one98 : ∀ u ∈ ([.int .u8 98, .int .i64 0, .int .i64 0, .string noText, .int .u8 98, .int .i64 0, .int .i64 0, .string noText] : List Value), u.oneCell' = true := by
  intro u hu
  simp only [List.mem_cons, List.not_mem_nil, or_false] at hu
  rcases hu with rfl | rfl | rfl | rfl | rfl | rfl | rfl | rfl <;> rfl
set_option maxRecDepth 100000 in
set_option maxHeartbeats 8000000 in
theorem treeParts_walk (A : Option Addr) (c : Nat) (l : List Tw) (w : World) (hok : ∀ x ∈ l, TwOk x) (hrd : RdW w A l) (hcap : l.length ≤ c ∧ c ≤ 9223372036854775807) (hA : ∀ a, A = some a → l ≠ [] → a.block < w.heap.size) :
    Calls Try.prog 4 #[.slice A l.length c] w fun e w' => e = .returned (.bool true) ∧ Below w.heap.size w w' := by
  have HWK := Lib.hid (fun W => wakes_any W)
  obtain ⟨ls, er, hls, hts, hpb⟩ := parts_both l hok (by omega)
  have HPB := Lib.hid hpb
  have HLS := Lib.hid (And.intro hls hts)
  have HR := Lib.hid (And.intro hrd hA)
  have HCP := Lib.hid (fun (h : l.length ≤ 100000) => copied_any A c l w hrd h)
  obtain ⟨n, hn⟩ : ∃ n, n = l.length := ⟨_, rfl⟩
  rw [← hn] at HPB HCP hcap ⊢
  have HN := Lib.hid hn
  obtain ⟨hc1, hc2⟩ := hcap
  clear hok hrd hA hn hpb hts hls
  by_cases hbig : 5000 < n
  · have hd : decide ((5000 : Int) < (n : Int)) = true := decide_eq_true (by omega)
    go_enter Try.func4, Try.ntmps4
    go_wp2_with fail
    refine (HWK.out w).mono ?_
    rintro e w2 ⟨rfl, hb2⟩
    have HB := Lib.hid hb2
    clear hb2
    go_wp2_with fail
    go_ret
    exact ⟨rfl, HB.out⟩
  · have hd : decide ((5000 : Int) < (n : Int)) = false := decide_eq_false (by omega)
    go_enter Try.func4, Try.ntmps4
    go_wp2_with fail
    refine (HCP.out (by omega)).mono ?_
    rintro e w1 ⟨⟨B, cB, rfl, ho1⟩, hb1⟩
    have hcB := own_cap ho1
    have hcB2 := own_cap2 ho1
    have H1 := Lib.hid (And.intro ho1 hb1)
    have HRB : Hid (RdW w1 B l ∧ ∀ a, B = some a → l ≠ [] → a.block < w1.heap.size) := ⟨RdW.of_own ho1 HN.out, fun a ha _ => (World.ownsRow.lt ho1 a.block (by rw [ha]; rfl)).2⟩
    clear ho1 hb1 HCP
    have HP1 := Lib.hid (HPB.out w1 B cB HRB.out.1 hcB hcB2 HRB.out.2).1
    go_wp2_with fail
    refine HP1.out.mono ?_
    rintro e w2 ⟨P1, cP1, vs1, rfl, hr2, ht2, hb2⟩
    have H2 := Lib.hid (And.intro hr2 (And.intro ht2 hb2))
    have HBW2 := Lib.hid (H1.out.2.trans (hb2.mono H1.out.2.size))
    clear hr2 ht2 hb2 HP1
    have HP2 := Lib.hid (HPB.out w2 A c (HR.out.1.below HBW2.out) hc1 hc2 (fun a ha hl => Nat.lt_of_lt_of_le (HR.out.2 a ha hl) HBW2.out.size)).2
    obtain ⟨m, hm⟩ : ∃ m, m = ls.length := ⟨_, rfl⟩
    have HM := Lib.hid hm
    have hm9 : m ≤ 100000 := by have := HLS.out.1; omega
    rw [← hm] at H2 ⊢
    clear hm
    go_wp2_with fail
    refine HP2.out.mono ?_
    rintro e w3 ⟨P2, cP2, vs2, rfl, hr3, ht3, hb3⟩
    rw [← HM.out] at hr3 ⊢
    have H3 := Lib.hid (And.intro hr3 (And.intro ht3 hb3))
    clear hr3 ht3 hb3 HP2
    have her : (er != er) = false := by simp
    have hmm : ((m : Int) != (m : Int)) = false := by simp
    go_wp2_with fail
    have HT : Hid (w3.ownsRow w1.heap.size 25 1 (.slice P1 m cP1) m vs1 ∧ TreesAt w3 w1.heap.size vs1 ls ∧ Below w.heap.size w w3 ∧ vs1.length = m ∧ vs2.length = m) :=
      ⟨own_below H2.out.1 H3.out.2.2, H2.out.2.1.below H3.out.2.2, HBW2.out.trans (H3.out.2.2.mono HBW2.out.size), by rw [HM.out]; exact H2.out.2.1.len, by rw [HM.out]; exact H3.out.2.1.len⟩
    have HS : Hid (w.heap.size ≤ w1.heap.size ∧ w1.heap.size ≤ w2.heap.size ∧ w2.heap.size ≤ w3.heap.size) := ⟨H1.out.2.size, H2.out.2.2.size, H3.out.2.2.size⟩
    have HB1 : Hid (Below w1.heap.size w1 w3) := H2.out.2.2.trans (H3.out.2.2.mono H2.out.2.2.size)
    have HT1 : Hid (∀ v ∈ vs1, ∀ g, v.ownBlock = some g → w1.heap.size ≤ g ∧ g < w2.heap.size) := H2.out.2.1.lt
    have HP1 : Hid (∀ g, (Value.slice P1 m cP1).ownBlock = some g → w1.heap.size ≤ g ∧ g < w2.heap.size) := fun g hg => World.ownsRow.lt H2.out.1 g hg
    go_loopw [8] (fun s8 wr => ∃ (i : Nat) (us : List Value), s8 = .int .i64 (i : Nat) ∧ i ≤ m ∧ wr.ownsRow w1.heap.size 25 1 (.slice P1 m cP1) m us ∧ us.drop i = vs1.drop i ∧ TailAt wr w1.heap.size vs1 ls i ∧ Chg (fun b => w1.heap.size ≤ b ∧ b < w2.heap.size) w3 wr) (fun s8 _ => m - (intOf s8).toNat)
    case atStart => exact ⟨0, vs1, rfl, by omega, HT.out.1, rfl, fun j v t _ hv ht => HT.out.2.1.at_ j v t hv ht, Chg.refl _ _⟩
    case round =>
      obtain ⟨i, us, rfl, hi, hru, hus, htl, hch⟩ := hrel
      have HI := Lib.hid (And.intro hru (And.intro hus (And.intro htl hch)))
      have HBW : Hid (Below w.heap.size w wr) := hch.below HT.out.2.2.1 HT.out.2.2.1.size (fun k hk => Nat.le_trans HS.out.1 hk.1)
      clear hru hus htl hch
      by_cases hlt : i < m
      · have hd1 : decide ((i : Int) < (m : Int)) = true := decide_eq_true (by omega)
        obtain ⟨v, hv⟩ : ∃ v, vs1[i]? = some v := ⟨_, List.getElem?_eq_getElem (by rw [HT.out.2.2.2.1]; exact hlt)⟩
        obtain ⟨v2, hv2⟩ : ∃ v, vs2[i]? = some v := ⟨_, List.getElem?_eq_getElem (by rw [HT.out.2.2.2.2]; exact hlt)⟩
        obtain ⟨t, ht⟩ : ∃ t, ls[i]? = some t := ⟨_, List.getElem?_eq_getElem (by rw [← HM.out]; exact hlt)⟩
        have huv : us[i]? = some v := by
          have h := congrArg (fun x => x[0]?) HI.out.2.1
          simp only [List.getElem?_drop, Nat.add_zero] at h
          rw [h]; exact hv
        obtain ⟨Au, cu, rfl, hou⟩ := HI.out.2.2.1 i v t (Nat.le_refl _) hv ht
        have hr2 : wr.ownsRow w2.heap.size 25 1 (.slice P2 m cP2) m vs2 := own_chg H3.out.1 HI.out.2.2.2 (fun g hg h => by have := (World.ownsRow.lt H3.out.1 g hg).1; omega)
        have ht2 : TreesAt wr w2.heap.size vs2 ls := H3.out.2.1.chg HI.out.2.2.2 (fun v hv g hg h => by have := (H3.out.2.1.lt v hv g hg).1; omega)
        obtain ⟨A2, c2, rfl, ho2⟩ := ht2.at_ i v2 t hv2 ht
        obtain ⟨gp, capp, hp, _, hgp⟩ := HI.out.1.form (by omega)
        have hPp : P1 = some ⟨gp, 0, none⟩ := by injection hp
        subst hPp
        obtain ⟨g2, cap2, hp2, _, hg2⟩ := hr2.form (by omega)
        have hPp2 : P2 = some ⟨g2, 0, none⟩ := by injection hp2
        subst hPp2
        have c0 : wr.cell? ⟨gp, i, none⟩ = some (.slice Au t.length cu) := by
          have h := HI.out.1.cells (g := gp) rfl i _ huv
          rw [addr_add, Nat.zero_add] at h
          exact h
        have d0 : wr.cell? ⟨g2, i, none⟩ = some (.slice A2 t.length c2) := by
          have h := hr2.cells (g := g2) rfl i _ hv2
          rw [addr_add, Nat.zero_add] at h
          exact h
        have htb : t.length ≤ 90000 := HLS.out.2 t (List.mem_of_getElem? ht)
        have HAL := Lib.hid (fun q => alike_same Au A2 cu c2 t.length t (wr.drewN q) ((RdW.of_own hou rfl).below (below_drewN (Below.refl _ wr) q)) ((RdW.of_own ho2 rfl).below (below_drewN (Below.refl _ wr) q)) rfl (by omega))
        have HOU := Lib.hid hou
        have HV := Lib.hid (And.intro hv ht)
        have HUS := Lib.hid huv
        have HDR := Lib.hid HI.out.2.1
        obtain ⟨tl, htl⟩ : ∃ z, z = t.length := ⟨_, rfl⟩
        rw [← htl] at c0 d0 htb HAL HOU HV HUS
        have hi0 : (0 : Int) ≤ (i : Int) := by omega
        have hin : (i : Int) < (m : Int) := by omega
        clear hv hv2 ht huv hou hr2 ht2 ho2 hp hp2 htl
        go_wp2_with fail
        go_quiet (refine Calls.quiet_of (HAL.out _))
        have HIq : Hid ((wr.drewN nq).ownsRow w1.heap.size 25 1 (.slice (some ⟨gp, 0, none⟩) m cP1) m us ∧ (wr.drewN nq).ownsRow w1.heap.size 33 4 (.slice Au tl cu) tl (wcells t) ∧ Chg (fun b => w1.heap.size ≤ b ∧ b < w2.heap.size) w3 (wr.drewN nq) ∧ TailAt (wr.drewN nq) w1.heap.size vs1 ls i ∧ us[i]? = some (.slice Au tl cu)) := by
          have hb := below_drewN (Below.refl wr.heap.size wr) nq
          have hnn := HOU.out
          exact ⟨own_below HI.out.1 hb, own_below hnn hb, HI.out.2.2.2.drewN nq, HI.out.2.2.1.chg (T := fun _ => False) (Nat.le_refl _) (.of_below hb) (fun _ _ _ _ _ _ h => h), HUS.out⟩
        have HGP : Hid (∀ b, (Value.slice Au tl cu).ownBlock = some b → b ≠ gp) := fun b hb he => by
          obtain ⟨cur, hbk⟩ := own_blk2 HI.out.1 (show (Value.slice (some ⟨gp, 0, none⟩) m cP1).ownBlock = some gp from rfl)
          exact own_blk_ne HOU.out hbk (by decide) (by rw [hb, he])
        have HGT : Hid (∀ v ∈ vs1, v.ownBlock ≠ some gp) := by
          obtain ⟨cur, hbk⟩ := own_blk2 HT.out.1 (show (Value.slice (some ⟨gp, 0, none⟩) m cP1).ownBlock = some gp from rfl)
          exact HT.out.2.1.ne25 hbk
        have HAU : Hid (∀ b, (Value.slice Au tl cu).ownBlock = some b → w1.heap.size ≤ b ∧ b < w2.heap.size) := fun b hb => HT1.out _ (List.mem_of_getElem? HV.out.1) b hb
        have HFAR : Hid (∀ (j : Nat) (u : Value), i + 1 ≤ j → vs1[j]? = some u → ∀ g, u.ownBlock = some g → (Value.slice Au tl cu).ownBlock ≠ some g) := fun j u hj hu g hg h => HT.out.2.1.far i j _ u g (by omega) HV.out.1 hu h hg
        clear HAL c0 d0 HI HV HUS HOU
        generalize wr.drewN nq = wq at *
        go_wp2_with fail
        go_loopw [9] (fun s9 wl => ∃ (k : Nat) (xs : List Value), s9 = .int .i64 (k : Nat) ∧ k ≤ tl ∧ wl.ownsRow w1.heap.size 33 4 (.slice Au tl cu) tl xs ∧ Chg (fun b => (Value.slice Au tl cu).ownBlock = some b) wq wl) (fun s9 _ => tl - (intOf s9).toNat)
        case atStart => exact ⟨0, wcells t, rfl, by omega, HIq.out.2.1, Chg.refl _ _⟩
        case round =>
          obtain ⟨k, xs, rfl, hk, hox, hch⟩ := hrel
          have HK := Lib.hid (And.intro hox hch)
          have HPR : Hid (wr.ownsRow w1.heap.size 25 1 (.slice (some ⟨gp, 0, none⟩) m cP1) m us) := own_chg HIq.out.1 hch (fun g hg h => HGP.out g h (by injection hg with hg; exact hg.symm))
          have c0 : wr.cell? ⟨gp, i, none⟩ = some (.slice Au tl cu) := by
            have h := HPR.out.cells (g := gp) rfl i _ HIq.out.2.2.2.2
            rw [addr_add, Nat.zero_add] at h
            exact h
          clear hox hch
          by_cases hlt2 : k < tl
          · have hd2 : decide ((k : Int) < (tl : Int)) = true := decide_eq_true (by omega)
            obtain ⟨gu, capu, hvu, _, _⟩ := HK.out.1.form (by omega)
            have hAu : Au = some ⟨gu, 0, none⟩ := by injection hvu
            subst hAu
            clear hvu
            have hk0 : (0 : Int) ≤ (k : Int) := by omega
            have hkt : (k : Int) < (tl : Int) := by omega
            have HTH := Lib.hid (own_there HK.out.1 hlt2)
            obtain ⟨xs', ho7, hch7⟩ := own_setCells [.int .u8 99, .int .i64 0, .int .i64 0, .string noText] (k * 4) wr xs HK.out.1
            have H7 := Lib.hid (And.intro ho7 hch7)
            clear ho7 hch7
            go_wp2_with (refine wpList_store_mid rfl 33 (.tmp 70) (.tmp 69) rfl gu (k * 4) #[.int .u8 99, .int .i64 0, .int .i64 0, .string noText] rfl rfl HTH.out (by kernel_rfl) one99 ?_)
            go_roundw
            case rel => exact ⟨k + 1, xs', by go_num, by omega, H7.out.1, HK.out.2.trans (H7.out.2.mono (fun b hb => by rw [hb]; rfl))⟩
            case measure => simp [intOf]; omega
          · have hd2 : decide ((k : Int) < (tl : Int)) = false := decide_eq_false (by omega)
            have hkt : k = tl := by omega
            subst hkt
            have hsz : w1.heap.size ≤ wr.heap.size := by have := HIq.out.2.2.1.size; have := HK.out.2.size; have := HS.out; omega
            have HSZ := Lib.hid hsz
            clear hsz
            have hib : k + 2 ≤ 100000 := by omega
            go_wp2_with (at_builtin; refine wpList_app_two rfl (.tmp 76) (.tmp 79) rfl w1.heap.size k cu 2 wr.heap.size Au xs [.int .u8 98, .int .i64 0, .int .i64 0, .string noText, .int .u8 98, .int .i64 0, .int .i64 0, .string noText] rfl (HK.out.1.alloc _) rfl (heap_alloc_new wr _) rfl one98 (by decide) hib (by have := HSZ.out; simp; omega) ?_; intro A3 c3 w5 ho5 hg5 hv5; have H5 := Lib.hid (And.intro ho5 (And.intro hg5 hv5)); have HP5 : Hid (w5.ownsRow w1.heap.size 25 1 (.slice (some ⟨gp, 0, none⟩) m cP1) m us) := Lib.hid (own_chg (HPR.out.alloc _) (Chg.of_grown hg5 (T := fun b => (Value.slice Au k cu).ownBlock = some b) (fun r hr => hr)) (fun g hg h => HGP.out g h (by injection hg with hg; exact hg.symm))); have c5 : w5.cell? ⟨gp, i, none⟩ = some (.slice Au k cu) := row_cell HP5.out HIq.out.2.2.2.2; have f5 : w5.frozen? ⟨gp, i, none⟩ = false := World.ownsRow.frozenAt HP5.out _; clear ho5 hg5 hv5)
            go_roundw
            case rel =>
              have hch5 : Chg (fun b => (Value.slice Au k cu).ownBlock = some b ∨ b = gp) wq w5 := ((HK.out.2.mono (fun b hb => .inl hb)).alloc _).trans (.of_grown H5.out.2.1 (fun r hr => .inl hr))
              have hst := HP5.out.stored i (.slice A3 (k + 2) c3)
              have hch6 : Chg (fun b => (Value.slice Au k cu).ownBlock = some b ∨ b = gp) wq (w5.setCell ⟨gp, i, none⟩ (.slice A3 (k + 2) c3)) := hch5.setCell (p := ⟨gp, i, none⟩) (.inr rfl) _
              refine ⟨i + 1, us.set i (.slice A3 (k + 2) c3), by go_num, by omega, hst.1, ?_, ?_, ?_⟩
              · have h := congrArg (List.drop 1) HDR.out
                rw [List.drop_drop, List.drop_drop] at h
                rw [List.drop_set_of_lt (by omega)]
                exact h
              · refine HIq.out.2.2.2.1.chg (by omega) hch6 (fun j u hj hu g hg hT => ?_)
                rcases hT with h | h
                · exact HFAR.out j u hj hu g hg h
                · exact HGT.out u (List.mem_of_getElem? hu) (by rw [hg, h])
              · exact HIq.out.2.2.1.trans (hch6.mono (fun b hb => by
                  rcases hb with h | h
                  · exact HAU.out b h
                  · rw [h]; exact HP1.out gp rfl))
            case measure => simp [intOf]; omega
      · have hd1 : decide ((i : Int) < (m : Int)) = false := decide_eq_false (by omega)
        have HBw : Hid (Below w1.heap.size w1 wr) := HI.out.2.2.2.below HB1.out (Nat.le_trans HS.out.2.1 HS.out.2.2) (fun k hk => hk.1)
        have hrb := HRB.out.1.below HBw.out
        have HRC : Hid (RdW wr B l ∧ RdW wr A l) := ⟨hrb, HR.out.1.below HBW.out⟩
        have HP3 := Lib.hid (HPB.out wr B cB hrb hcB hcB2 (fun a ha hl => Nat.lt_of_lt_of_le (HRB.out.2 a ha hl) HBw.out.size)).1
        have HR2 : Hid (wr.ownsRow w2.heap.size 25 1 (.slice P2 m cP2) m vs2 ∧ TreesAt wr w2.heap.size vs2 ls) :=
          ⟨own_chg H3.out.1 HI.out.2.2.2 (fun g hg h => by have := (World.ownsRow.lt H3.out.1 g hg).1; omega), H3.out.2.1.chg HI.out.2.2.2 (fun v hv g hg h => by have := (H3.out.2.1.lt v hv g hg).1; omega)⟩
        clear hrb HI
        go_wp2_with fail
        refine HP3.out.mono ?_
        rintro e w4 ⟨P3, cP3, vs3, rfl, hr4, ht4, hb4⟩
        rw [← HM.out] at hr4 ⊢
        have H4 := Lib.hid (And.intro hr4 (And.intro ht4 hb4))
        have HB4 := Lib.hid (HBW.out.trans (hb4.mono HBW.out.size))
        have HAL := Lib.hid (alike_same B A cB c n l w4 (HRC.out.1.below hb4) (HRC.out.2.below hb4) HN.out (by omega))
        clear hr4 ht4 hb4 HP3
        go_wp2_with fail
        refine HAL.out.mono ?_
        rintro e w5 ⟨rfl, nq, rfl⟩
        have H5 : Hid ((w4.drewN nq).ownsRow wr.heap.size 25 1 (.slice P3 m cP3) m vs3 ∧ TreesAt (w4.drewN nq) wr.heap.size vs3 ls ∧ (w4.drewN nq).ownsRow w2.heap.size 25 1 (.slice P2 m cP2) m vs2 ∧ TreesAt (w4.drewN nq) w2.heap.size vs2 ls ∧ Below w.heap.size w (w4.drewN nq) ∧ vs3.length = m) := by
          have hb := below_drewN (Below.refl w4.heap.size w4) nq
          exact ⟨own_below H4.out.1 hb, H4.out.2.1.below hb, own_below (own_below HR2.out.1 H4.out.2.2) hb, (HR2.out.2.below H4.out.2.2).below hb, below_drewN HB4.out nq, by rw [HM.out]; exact H4.out.2.1.len⟩
        clear HAL HB4 H4 HR2
        generalize w4.drewN nq = w5 at *
        go_wp2_with fail
        obtain ⟨wa, hwa⟩ : ∃ x, x = wr := ⟨_, rfl⟩
        subst hwa
        go_loopw [12] (fun s12 wl => ∃ j : Nat, s12 = .int .i64 (j : Nat) ∧ j ≤ m ∧ Below w5.heap.size w5 wl) (fun s12 _ => m - (intOf s12).toNat)
        case atStart => exact ⟨0, rfl, by omega, Below.refl _ _⟩
        case round =>
          obtain ⟨j, rfl, hj, hb⟩ := hrel
          have HB := Lib.hid hb
          have HBZ := Lib.hid (H5.out.2.2.2.2.1.trans (hb.mono H5.out.2.2.2.2.1.size))
          clear hb
          by_cases hlt : j < m
          · have hd2 : decide ((j : Int) < (m : Int)) = true := decide_eq_true (by omega)
            obtain ⟨v, hv⟩ : ∃ v, vs3[j]? = some v := ⟨_, List.getElem?_eq_getElem (by rw [H5.out.2.2.2.2.2]; exact hlt)⟩
            obtain ⟨v2, hv2⟩ : ∃ v, vs2[j]? = some v := ⟨_, List.getElem?_eq_getElem (by rw [HT.out.2.2.2.2]; exact hlt)⟩
            obtain ⟨t, ht⟩ : ∃ t, ls[j]? = some t := ⟨_, List.getElem?_eq_getElem (by rw [← HM.out]; exact hlt)⟩
            obtain ⟨Au, cu, rfl, hou⟩ := (H5.out.2.1.below HB.out).at_ j v t hv ht
            obtain ⟨A2, c2, rfl, ho2⟩ := (H5.out.2.2.2.1.below HB.out).at_ j v2 t hv2 ht
            have hr3 := own_below H5.out.1 HB.out
            have hr2 := own_below H5.out.2.2.1 HB.out
            obtain ⟨gp, capp, hp, _, hgp⟩ := hr3.form (by omega)
            have hPp : P3 = some ⟨gp, 0, none⟩ := by injection hp
            subst hPp
            obtain ⟨g2, cap2, hp2, _, hg2⟩ := hr2.form (by omega)
            have hPp2 : P2 = some ⟨g2, 0, none⟩ := by injection hp2
            subst hPp2
            have c0 : wr.cell? ⟨gp, j, none⟩ = some (.slice Au t.length cu) := row_cell hr3 hv
            have d0 : wr.cell? ⟨g2, j, none⟩ = some (.slice A2 t.length c2) := row_cell hr2 hv2
            have htb : t.length ≤ 90000 := HLS.out.2 t (List.mem_of_getElem? ht)
            have HAL := Lib.hid (fun q => alike_same Au A2 cu c2 t.length t (wr.drewN q) ((RdW.of_own hou rfl).below (below_drewN (Below.refl _ wr) q)) ((RdW.of_own ho2 rfl).below (below_drewN (Below.refl _ wr) q)) rfl (by omega))
            obtain ⟨tl, htl⟩ : ∃ z, z = t.length := ⟨_, rfl⟩
            rw [← htl] at c0 d0 HAL
            have hj0 : (0 : Int) ≤ (j : Int) := by omega
            have hjm : (j : Int) < (m : Int) := by omega
            clear hv hv2 ht hou ho2 hr3 hr2 hp hp2 htl htb hgp hg2
            go_wp2_with fail
            go_quiet (refine Calls.quiet_of (HAL.out _))
            have HBN := Lib.hid (below_drewN HB.out nq)
            clear HAL c0 d0
            go_wp2_with fail
            go_roundw
            case rel => exact ⟨j + 1, by go_num, by omega, HBN.out⟩
            case measure => simp [intOf]; omega
          · have hd2 : decide ((j : Int) < (m : Int)) = false := decide_eq_false (by omega)
            go_wp2_with fail
            refine (HWK.out wr).mono ?_
            rintro e w10 ⟨rfl, hb10⟩
            have HBF := Lib.hid (HBZ.out.trans (hb10.mono HBZ.out.size))
            clear hb10
            go_wp2_with fail
            go_ret
            exact ⟨rfl, HBF.out⟩
end Go.Proofs.Ytpdofcjgpomehaa
