/- Contract of tree.Parts. -/
import Derived.Test.YtpdofcjgpomehaaEds
namespace Go.Proofs.Ytpdofcjgpomehaa
open Go.RowKit

theorem Try.info25 : (Try.prog.info? 25).map (fun i => (i.zero, i.size, i.bytes)) = some (some (.slice none 0 0), 1, 24) := by kernel_rfl
/-- 'l = append(l, t)' for a list of trees of the call's own. -/
theorem wpList_app_tree {ops : Array Oper} {rest : List Oper} {o : Oper} {a : Act} {W : World} {Q : Exit → Act → World → Prop} (hgd : o.guard = none) (sl x : Operand)
    (ho : o.op = .call { callee := .builtin .append, args := #[sl, x], argTypes := #[27, 27] }) (base g n cap : Nat) (A : Option Addr) (l : List Value) (A1 : Option Addr) (n1 c1 : Nat)
    (hs : a.eval sl = .slice A n cap) (hown : W.ownsRow base 25 1 (.slice A n cap) n l) (hx : a.eval x = .slice (some ⟨g, 0, none⟩) 1 1)
    (hg : W.heap[g]? = some (.cells #[.slice A1 n1 c1] 25 (0, 0))) (hm : n ≤ 100000) (hb : base ≤ W.heap.size)
    (h : ∀ A' c' W', W'.ownsRow base 25 1 (.slice A' (n + 1) c') (n + 1) (l ++ [.slice A1 n1 c1]) → W.grownBy W' (Value.slice A n cap).ownBlock → wpList Try.prog ops Q rest (a.put o.dst (.slice A' (n + 1) c')) W') :
    wpList Try.prog ops Q (o :: rest) a W := by
  obtain ⟨i0, hi0, hz0, hz1, hz2⟩ := info_parts Try.info25
  refine wpList_append_own _ hgd sl x 27 ho base 25 i0 (.slice none 0 0) 1 24 Try.underlying27 hi0 hz0 hz1 hz2 rfl (by decide) (.slice A n cap) n l hs hown ⟨g, 0, none⟩ 1 1 [.slice A1 n1 c1] hx rfl (news_of_blk hg) (by intro u hu; rw [List.mem_singleton] at hu; subst hu; rfl) (by unfold maxLen; omega) (by omega) hb ?_
  intro v3 w3 ho3 hg3 _
  obtain ⟨A3, c3, rfl, _⟩ := own_form ho3
  exact h A3 c3 w3 ho3 hg3
theorem below_grown0 {w w' : World} (h : w.grownBy w' none) : Below w.heap.size w w' := (Below.refl _ w).grown h (Nat.le_refl _) (fun r hr => by cases hr)
/-- 'append(nil, m...)' of twigs. -/
theorem wpList_copy_twigs {ops : Array Oper} {rest : List Oper} {o : Oper} {a : Act} {W : World} {Q : Exit → Act → World → Prop} (hgd : o.guard = none) (sl x : Operand)
    (ho : o.op = .call { callee := .builtin .append, args := #[sl, x], argTypes := #[25, 25] }) (m m0 c B : Nat) (X : Option Addr) (L : List Tw) (hm0 : m0 = m)
    (hs : a.eval sl = .slice none 0 0) (hx : a.eval x = .slice X m0 c) (hr : Reads W B 4 X m (wcells L)) (hb : m ≤ 100000)
    (h : ∀ A' c' W', W'.ownsRow W.heap.size 33 4 (.slice A' m c') m (wcells L) → W.grownBy W' none → wpList Try.prog ops Q rest (a.put o.dst (.slice A' m c')) W') :
    wpList Try.prog ops Q (o :: rest) a W := by
  subst hm0
  refine wpList_app_twigs hgd sl x ho W.heap.size 0 m0 0 c B none X [] L hs (World.ownsRow_nil _ _ _ _) hx hr (by omega) (Nat.le_refl _) ?_
  intro A' c' W' h1 h2
  rw [Nat.zero_add] at h1 ⊢
  exact h A' c' W' h1 h2
theorem own_blk2 {w : World} {base : Nat} {e : TypeId} {size n : Nat} {v : Value} {xs : List Value} {g : Nat} (h : w.ownsRow base e size v n xs) (hv : v.ownBlock = some g) : ∃ cur, Blk w g e cur := by
  rcases h.2 with ⟨h1, _⟩ | ⟨g', cap, cur, h1, _, hh, _⟩
  · rw [h1] at hv; simp [Value.ownBlock] at hv
  · rw [h1] at hv
    have : g' = g := by simpa [Value.ownBlock] using hv
    subst this
    exact ⟨cur, hh⟩
/-- Trees, each in new memory of its own. -/
structure TreesAt (w : World) (base : Nat) (vs : List Value) (ls : List (List Tw)) : Prop where
  len : vs.length = ls.length
  at_ : ∀ (i : Nat) (v : Value) (l : List Tw), vs[i]? = some v → ls[i]? = some l → ∃ A c, v = .slice A l.length c ∧ w.ownsRow base 33 4 v l.length (wcells l)
  far : ∀ (i j : Nat) (v u : Value) (g : Nat), i < j → vs[i]? = some v → vs[j]? = some u → v.ownBlock = some g → u.ownBlock ≠ some g
section
variable {w w' : World} {base : Nat} {vs : List Value} {ls : List (List Tw)}
theorem TreesAt.none_ (w : World) (base : Nat) : TreesAt w base [] [] := ⟨rfl, fun i v l h => by simp at h, fun i j v u g _ h => by simp at h⟩
theorem TreesAt.chg {T : Nat → Prop} (h : TreesAt w base vs ls) (hc : Chg T w w') (hn : ∀ v ∈ vs, ∀ g, v.ownBlock = some g → ¬ T g) : TreesAt w' base vs ls :=
  ⟨h.len, fun i v l hv hl => by
    obtain ⟨A, c, he, ho⟩ := h.at_ i v l hv hl
    exact ⟨A, c, he, own_chg ho hc (hn v (List.mem_of_getElem? hv))⟩, h.far⟩
theorem TreesAt.below (h : TreesAt w base vs ls) (hb : Below w.heap.size w w') : TreesAt w' base vs ls := h.chg (T := fun _ => False) (.of_below hb) (fun _ _ _ _ h => h)
theorem TreesAt.lt (h : TreesAt w base vs ls) : ∀ v ∈ vs, ∀ g, v.ownBlock = some g → base ≤ g ∧ g < w.heap.size := by
  intro v hv g hg
  obtain ⟨i, hi⟩ := List.mem_iff_getElem?.1 hv
  have hlt : i < vs.length := (List.getElem?_eq_some_iff.1 hi).1
  obtain ⟨l, hl⟩ : ∃ l, ls[i]? = some l := ⟨_, List.getElem?_eq_getElem (by rw [← h.len]; exact hlt)⟩
  obtain ⟨A, c, _, ho⟩ := h.at_ i v l hi hl
  exact World.ownsRow.lt ho g hg
theorem TreesAt.ne25 (h : TreesAt w base vs ls) {g : Nat} {cs : Array Value} (hb : Blk w g 25 cs) : ∀ v ∈ vs, v.ownBlock ≠ some g := by
  intro v hv
  obtain ⟨i, hi⟩ := List.mem_iff_getElem?.1 hv
  have hlt : i < vs.length := (List.getElem?_eq_some_iff.1 hi).1
  obtain ⟨l, hl⟩ : ∃ l, ls[i]? = some l := ⟨_, List.getElem?_eq_getElem (by rw [← h.len]; exact hlt)⟩
  obtain ⟨A, c, _, ho⟩ := h.at_ i v l hi hl
  exact own_blk_ne ho hb (by decide)
theorem TreesAt.snoc (h : TreesAt w base vs ls) {A : Option Addr} {c : Nat} {l : List Tw} (hb : base ≤ w.heap.size) (hg : w.grownBy w' none) (ho : w'.ownsRow w.heap.size 33 4 (.slice A l.length c) l.length (wcells l)) : TreesAt w' base (vs ++ [.slice A l.length c]) (ls ++ [l]) := by
  have h2 : TreesAt w' base vs ls := h.chg (T := fun _ => False) (.of_grown hg (fun r hr => by cases hr)) (fun _ _ _ _ h => h)
  have hl := h.lt
  refine ⟨by simp [h.len], fun i v l2 hv hl2 => ?_, fun i j v u g hij hv hu hgv hgu => ?_⟩
  · rcases Nat.lt_trichotomy i vs.length with hi | hi | hi
    · rw [List.getElem?_append_left hi] at hv
      rw [List.getElem?_append_left (by rw [← h.len]; exact hi)] at hl2
      exact h2.at_ i v l2 hv hl2
    · subst hi
      rw [List.getElem?_append_right (Nat.le_refl _), Nat.sub_self] at hv
      rw [List.getElem?_append_right (by rw [h.len]; exact Nat.le_refl _), h.len, Nat.sub_self] at hl2
      injection hv with hv
      injection hl2 with hl2
      subst hv; subst hl2
      exact ⟨A, c, rfl, own_at ho (fun g hg => Nat.le_trans hb (World.ownsRow.lt ho g hg).1)⟩
    · rw [List.getElem?_eq_none (by simp; omega)] at hv; cases hv
  · have hj : j < (vs ++ [Value.slice A l.length c]).length := (List.getElem?_eq_some_iff.1 hu).1
    simp at hj
    have hi : i < vs.length := by omega
    rw [List.getElem?_append_left hi] at hv
    rcases Nat.lt_or_ge j vs.length with hj2 | hj2
    · rw [List.getElem?_append_left hj2] at hu
      exact h.far i j v u g hij hv hu hgv hgu
    · have : j = vs.length := by omega
      subst this
      rw [List.getElem?_append_right (Nat.le_refl _), Nat.sub_self] at hu
      injection hu with hu
      subst hu
      have h3 := hl v (List.mem_of_getElem? hv) g hgv
      have h4 := World.ownsRow.lt ho g hgu
      omega
end
theorem TreesAt.grown_out {w w' : World} {base base2 n : Nat} {vs xs : List Value} {ls : List (List Tw)} {v : Value} (h : TreesAt w base vs ls) (ho : w.ownsRow base2 25 1 v n xs) (hg : w.grownBy w' v.ownBlock) : TreesAt w' base vs ls := by
  refine h.chg (T := fun b => v.ownBlock = some b) (.of_grown hg (fun r hr => hr)) (fun u hu g hgu hgv => ?_)
  obtain ⟨cur, hb⟩ := own_blk2 ho hgv
  exact h.ne25 hb u hu hgu
def PartsPost (w : World) (ls : List (List Tw)) (e : Ending) (w' : World) : Prop :=
  ∃ A' c' vs, e = .returned (.tuple #[.slice A' ls.length c', .int .i64 0]) ∧ w'.ownsRow w.heap.size 25 1 (.slice A' ls.length c') ls.length vs ∧ TreesAt w' w.heap.size vs ls ∧ Below w.heap.size w w'
theorem parts_bad (A : Option Addr) (c : Nat) (l : List Tw) (w : World) (hbad : (chk l).2 ≠ 0) (hok : ∀ x ∈ l, TwOk x) (hrd : RdW w A l) (hlen : l.length ≤ 9223372036854775807) (hA : ∀ a, A = some a → l ≠ [] → a.block < w.heap.size) :
    Calls Try.prog 14 #[.slice A l.length c] w fun e w' => e = .returned (.tuple #[.slice none 0 0, .int .i64 (chk l).2]) ∧ Below w.heap.size w w' := by
  have HC := Lib.hid (check_any A c l w hok hrd hlen hA)
  obtain ⟨er, her⟩ : ∃ z, z = (chk l).2 := ⟨_, rfl⟩
  rw [← her] at HC hbad ⊢
  have hne : (er != 0) = true := by rw [bne_iff_ne]; exact hbad
  obtain ⟨n, hn⟩ : ∃ n, n = l.length := ⟨_, rfl⟩
  rw [← hn] at HC hlen ⊢
  clear hok hrd hA hn her hbad
  go_enter Try.func14, Try.ntmps14
  go_wp2_with fail
  refine HC.out.mono ?_
  rintro e w1 ⟨rfl, hb1⟩
  have HB := Lib.hid hb1
  clear hb1
  go_wp2_with fail
  go_ret2
  exact ⟨rfl, HB.out⟩
set_option maxRecDepth 100000 in
set_option maxHeartbeats 4000000 in
theorem parts_any (x : Tw) (ks : List Tr) (A : Option Addr) (c : Nat) (l : List Tw) (w : World) (hT : Right l (.node x ks)) (hd : (Tr.node x ks).depth ≤ 40) (hok : ∀ x ∈ l, TwOk x) (hrd : RdW w A l) (hlen : l.length ≤ 2048) (hcap : l.length ≤ c ∧ c ≤ 9223372036854775807) (hA : ∀ a, A = some a → l ≠ [] → a.block < w.heap.size) :
    Calls Try.prog 14 #[.slice A l.length c] w (PartsPost w (ks.map Tr.flat)) := by
  have HC := Lib.hid (check_any A c l w hok hrd (by omega) hA)
  rw [chk_right hT hlen, if_pos hd] at HC
  obtain ⟨n, hn⟩ : ∃ n, n = l.length := ⟨_, rfl⟩
  rw [← hn] at HC hlen hcap ⊢
  have hck : coks ks := by have := ok_cok _ _ hT.1; rw [Tr.cok] at this; exact this.2
  have hl1 : l.drop 1 = flats ks := by rw [← hT.2, Tr.flat]; rfl
  have hpos : 0 < n := by rw [hn, ← hT.2]; exact flat_pos _
  obtain ⟨b, off, rfl⟩ : ∃ b off, A = some ⟨b, off, none⟩ := by
    rcases hrd with h | ⟨b, off, h, _⟩
    · rw [h] at hn; simp at hn; omega
    · exact ⟨b, off, h⟩
  have HN := Lib.hid (And.intro hn (And.intro hck hl1))
  have HR := Lib.hid hrd
  obtain ⟨hc1, hc2⟩ := hcap
  clear hok hrd hA hn hT hd hck hl1
  go_enter Try.func14, Try.ntmps14
  go_wp2_with fail
  refine HC.out.mono ?_
  rintro e w1 ⟨rfl, hb1⟩
  have HB := Lib.hid hb1
  have HR1 := Lib.hid (HR.out.below hb1)
  clear hb1
  go_wp2_with fail
  go_loopw [6, 7, 8] (fun s6 s7 s8 wr => ∃ (i at_ c1 : Nat) (A1 : Option Addr) (vs : List Value), s6 = .slice A1 i c1 ∧ s7 = .int .i64 (at_ : Nat) ∧ i ≤ ks.length ∧ 0 < at_ ∧ at_ ≤ n ∧ l.drop at_ = flats (ks.drop i) ∧ wr.ownsRow w.heap.size 25 1 (.slice A1 i c1) i vs ∧ TreesAt wr w.heap.size vs ((ks.take i).map Tr.flat) ∧ Below w.heap.size w wr) (fun _ s7 _ _ => n - (intOf s7).toNat)
  case atStart => exact ⟨0, 1, 0, none, [], rfl, rfl, by omega, by omega, by omega, HN.out.2.2, World.ownsRow_nil _ _ _ _, TreesAt.none_ _ _, HB.out⟩
  case round =>
    clear HC
    obtain ⟨i, at_, c1, A1, vs, rfl, rfl, hi, ha0, hat, hdr, ho, hts, hb⟩ := hrel
    have HI := Lib.hid (And.intro hdr (And.intro ho (And.intro hts hb)))
    clear ho hts hb
    by_cases hlt : at_ < n
    · have hd1 : decide ((at_ : Int) < (n : Int)) = true := decide_eq_true (by omega)
      have hik : i < ks.length := by
        rcases Nat.lt_or_ge i ks.length with h | h
        · exact h
        · rw [List.drop_of_length_le h] at hdr
          have h1 := drop_len hdr
          have := HN.out.1
          simp [flats] at h1
          omega
      have hkd : ks.drop i = ks[i] :: ks.drop (i + 1) := List.drop_eq_getElem_cons hik
      rw [hkd, flats] at hdr
      have hckk : (ks[i]).cok := by
        have h := HN.out.2.1
        rw [← List.take_append_drop i ks, coks_append, hkd, coks] at h
        exact h.2.1
      have HE := Lib.hid (ends_any ks[i] (some ⟨b, off, none⟩) c at_ l (flats (ks.drop (i + 1))) wr hckk hdr (by have := HN.out.1; omega) (HR.out.below HI.out.2.2.2))
      obtain ⟨k, hk⟩ : ∃ k, k = ks[i] := ⟨_, rfl⟩
      rw [← hk] at HE hdr
      rw [← HN.out.1] at HE
      obtain ⟨kl, hkl⟩ : ∃ q, q = k.flat.length := ⟨_, rfl⟩
      rw [← hkl] at HE
      have hkp : 0 < kl ∧ at_ + kl ≤ n := by
        have h1 := drop_len hdr
        have h2 := flat_pos k
        have := HN.out.1
        rw [List.length_append] at h1
        omega
      have HK : Hid (l.drop (at_ + kl) = flats (ks.drop (i + 1)) ∧ (l.take (at_ + kl)).drop at_ = k.flat ∧ (ks.take (i + 1)).map Tr.flat = (ks.take i).map Tr.flat ++ [k.flat] ∧ k.flat.length = kl) := by
        refine ⟨?_, ?_, ?_, hkl.symm⟩
        · rw [hkl]; exact drop_app hdr
        · rw [List.drop_take, hdr, hkl, Nat.add_sub_cancel_left]; simp
        · rw [List.take_succ_eq_append_getElem hik, List.map_append, ← hk]; rfl
      obtain ⟨hkp1, hkp2⟩ := hkp
      clear hdr hkd hckk hk hkl
      have hne : ¬ (c : Int) < (at_ : Int) + (kl : Int) := by omega
      go_wp2_with fail
      refine HE.out.mono ?_
      rintro e w2 ⟨rfl, hw2⟩
      rw [hw2]
      clear hw2 w2
      have HRC := Lib.hid ((HR.out.below HI.out.2.2.2).cut at_ (at_ + kl))
      rw [HK.out.2.1] at HRC
      have HRD : Hid (Reads wr wr.heap.size 4 (some ⟨b, off + at_ * 4, none⟩) kl (wcells k.flat)) := by
        have h := HRC.out.reads
        rw [HK.out.2.2.2] at h
        exact h
      have hkb : kl ≤ 100000 := by omega
      have HSUB := Lib.hid (show at_ + kl - at_ = kl from by omega)
      have hib : i ≤ 100000 := by have := len_flats ks; have h := drop_len HN.out.2.2; have := HN.out.1; omega
      have HBS : Hid (w.heap.size ≤ wr.heap.size) := HI.out.2.2.2.size
      go_wp2_with (first | (at_builtin; refine wpList_copy_twigs rfl (.const (.slice none 0 0)) (.tmp 28) rfl kl (at_ + kl - at_) (c - at_) wr.heap.size (some ⟨b, off + at_ * 4, none⟩) k.flat HSUB.out rfl rfl HRD.out hkb ?_; intro A3 c3 w3 ho3 hg3; have H3 := Lib.hid (And.intro ho3 hg3); clear ho3 hg3) | (at_builtin; refine wpList_app_tree rfl (.tmp 24) (.tmp 30) rfl w.heap.size w3.heap.size i c1 A1 vs A3 kl c3 rfl (((own_below HI.out.2.1 (below_grown0 H3.out.2))).alloc _) rfl (heap_alloc_new w3 _) hib (by have := HBS.out; have := H3.out.2.size; simp; omega) ?_; intro A4 c4 w4 ho4 hg4; have H4 := Lib.hid (And.intro ho4 hg4); clear ho4 hg4))
      go_roundw
      case rel =>
        have hb3 : Below wr.heap.size wr w3 := below_grown0 H3.out.2
        have hts3 := HI.out.2.2.1.snoc HI.out.2.2.2.size H3.out.2 (by have h := H3.out.1; rw [← HK.out.2.2.2] at h; exact h)
        have hts3a := hts3.below ((Below.refl w3.heap.size w3).alloc (Nat.le_refl _) (.cells #[.slice A3 kl c3] 25))
        have hown := (own_below HI.out.2.1 hb3).alloc (.cells #[.slice A3 kl c3] 25)
        have hts4 := hts3a.grown_out hown H4.out.2
        refine ⟨i + 1, at_ + kl, c4, A4, vs ++ [.slice A3 kl c3], rfl, by go_num, by omega, by omega, by omega, HK.out.1, H4.out.1, ?_, ?_⟩
        · rw [HK.out.2.2.1]
          rw [HK.out.2.2.2] at hts4
          exact hts4
        · exact ((HI.out.2.2.2.trans (hb3.mono HI.out.2.2.2.size)).alloc (Nat.le_trans HI.out.2.2.2.size hb3.size) _).grown H4.out.2 (by have := HI.out.2.2.2.size; have := hb3.size; simp; omega) (fun r hr => (World.ownsRow.lt HI.out.2.1 r hr).1)
      case measure => simp [intOf]; omega
    · have hd1 : decide ((at_ : Int) < (n : Int)) = false := decide_eq_false (by omega)
      have hie : i = ks.length := by
        rcases Nat.lt_or_ge i ks.length with h | h
        · rw [List.drop_eq_getElem_cons h, flats] at hdr
          have h1 := drop_len hdr
          have h2 := flat_pos ks[i]
          have := HN.out.1
          rw [List.length_append] at h1
          omega
        · omega
      have HE : Hid (PartsPost w (ks.map Tr.flat) (.returned (.tuple #[.slice A1 i c1, .int .i64 0])) wr) := by
        refine ⟨A1, c1, vs, by rw [List.length_map, hie], ?_, ?_, HI.out.2.2.2⟩
        · rw [List.length_map, ← hie]; exact HI.out.2.1
        · have h := HI.out.2.2.1
          rw [List.take_of_length_le (by omega)] at h
          exact h
      clear hdr hie
      go_wp2_with fail
      go_ret2
      exact HE.out
end Go.Proofs.Ytpdofcjgpomehaa
