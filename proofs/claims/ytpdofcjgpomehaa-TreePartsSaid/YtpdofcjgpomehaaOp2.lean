/- Openers of parameters that are trees' lists and twigs; contract of the laws' Many; trees that are told twice. -/
import Derived.Lib.SmallJoins
import Derived.Test.YtpdofcjgpomehaaBck
namespace Go.Proofs.Ytpdofcjgpomehaa
open Go.ChangeShapes Go.WideShapes Go.ChangeAt Go.RowKit Go.Deep Go.Joins

theorem cells33 : Try.prog.cellsOf 33 = 4 := by kernel_rfl
theorem cells25 : Try.prog.cellsOf 25 = 1 := by kernel_rfl
theorem open_top {H : Type} {enc : TypeId × Value → H} {W : World} {base base2 : Nat} {sp : Nat → Bool} {held : Bool} {v0 : Value} {d0 : DataW H} {p0 : List MemPlace}
    (hval : Value.okWide Try.prog W .any base 33 v0) (h0 : DataW.Trod enc Try.prog W base2 sp held 33 v0 d0 p0) : ∃ x : Tw, v0 = .agg (twCells x) ∧ TwOk x := by
  obtain ⟨c0, c1, c2, c3, y0, y1, y2, y3, n, rfl, _, _, t0, t1, t2, t3⟩ := open_agg4 Try.underlying33 (by kernel_rfl) cells33 hval h0
  obtain ⟨x, e0, e1, e2, e3, hx⟩ := tw_of t0 t1 t2 t3
  subst e0; subst e1; subst e2; subst e3
  exact ⟨x, rfl, hx⟩
theorem twigs_of {H : Type} {enc : TypeId × Value → H} {W : World} {base : Nat} {sp : Nat → Bool} {held : Bool} {fuel : Nat} {cs : List Value} {y : DataW H × List MemPlace} (hf : DataW.trod enc Try.prog W base sp held fuel 25 cs = some y) :
    ∃ (A : Option Addr) (l : List Tw) (c : Nat), cs = [.slice A l.length c] ∧ RdW W A l ∧ (l.length ≤ c ∧ c ≤ 9223372036854775807) ∧ (∀ x ∈ l, TwOk x) ∧ (∀ a, A = some a → l ≠ [] → a.block < W.heap.size) := by
  rcases open_slice_fields Try.underlying25 Try.underlying33 (by kernel_rfl) (by kernel_rfl) hf with ⟨rfl, _⟩ | ⟨a, len0, cap0, m, D, Pl, rfl, _, hl, hm, hmm, _, hrow⟩
  · exact ⟨none, [], 0, rfl, .inl rfl, by simp, by simp, by simp⟩
  · have hlm : len0 ≤ m := by rw [hmm]; split <;> omega
    have each : ∀ r, r < len0 → ∃ s : Tw, (W.cell? (a.add (r * 4)) = some (.int .u8 (s.op : Nat)) ∧ W.cell? (a.add (r * 4 + 1)) = some (.int .i64 s.kids) ∧ W.cell? (a.add (r * 4 + 2)) = some (.int .i64 s.int) ∧ W.cell? (a.add (r * 4 + 3)) = some (.string s.text)) ∧ TwOk s := fun r hr => by
      obtain ⟨ys, n, _, _, _, hfl⟩ := hrow r (by omega)
      obtain ⟨v0, y0, hc0, _, ht0⟩ := hfl 0 _ rfl
      obtain ⟨v1, y1, hc1, _, ht1⟩ := hfl 1 _ rfl
      obtain ⟨v2, y2, hc2, _, ht2⟩ := hfl 2 _ rfl
      obtain ⟨v3, y3, hc3, _, ht3⟩ := hfl 3 _ rfl
      obtain ⟨x, e0, e1, e2, e3, hx⟩ := tw_of ht0 ht1 ht2 ht3
      subst e0; subst e1; subst e2; subst e3
      exact ⟨x, ⟨hc0, hc1, hc2, hc3⟩, hx⟩
    obtain ⟨ls, hls, hp⟩ := exists_list len0 each
    refine ⟨some a, ls, cap0, by rw [hls], ?_, by rw [hls]; unfold maxLen at hm; omega, fun s hs => ?_, fun a' ha' hpos => ?_⟩
    · rcases Nat.eq_zero_or_pos len0 with h0 | h0
      · left; exact List.eq_nil_of_length_eq_zero (by omega)
      · right
        obtain ⟨s, ⟨hc0, _, _⟩, _⟩ := each 0 h0
        obtain ⟨b, off, spot⟩ := a
        have hs : spot = none := by
          have := World.cell?_spot hc0
          simpa [Addr.add] using this
        subst hs
        refine ⟨b, off, rfl, ?_, fun k s hk => ?_⟩
        · have := World.block_lt_of_cell? W _ hc0
          simpa [addr_add] using this
        · obtain ⟨⟨h1, h2, h3, h4⟩, _⟩ := hp k s hk
          rw [addr_add] at h1 h2 h3 h4
          exact ⟨h1, h2, h3, h4⟩
    · obtain ⟨k, hk⟩ := List.getElem?_of_mem hs
      exact (hp k s hk).2
    · injection ha' with ha'
      subst ha'
      obtain ⟨s, ⟨hc0, _, _⟩, _⟩ := each 0 (by rw [← hls]; exact List.length_pos_iff.2 hpos)
      have := World.block_lt_of_cell? W _ hc0
      rw [block_of_add] at this
      exact this
theorem open_trees {H : Type} {enc : TypeId × Value → H} {W : World} {base base2 : Nat} {sp : Nat → Bool} {held : Bool} {v0 : Value} {d0 : DataW H} {p0 : List MemPlace}
    (hval : Value.okWide Try.prog W .any base 27 v0) (h0 : DataW.Trod enc Try.prog W base2 sp held 27 v0 d0 p0) :
    ∃ (A : Option Addr) (vs : List Value) (ls : List (List Tw)) (c : Nat), v0 = .slice A vs.length c ∧ RdP W A vs ∧ RdF W vs ls ∧ vs.length ≤ 9223372036854775807 ∧ (∀ l ∈ ls, ∀ x ∈ l, TwOk x) := by
  obtain ⟨a0, len0, cap0, rfl⟩ := okWide_slice Try.underlying27 hval
  obtain ⟨fuel, hf⟩ := h0
  rcases open_slice Try.underlying27 hf with ⟨hcs, _⟩ | ⟨a, len, cap, m, n, D, Pl, hcs, _, hl, hm, hmm, _, hrow⟩
  · simp [Value.cells] at hcs
    obtain ⟨rfl, rfl, rfl⟩ := hcs
    exact ⟨none, [], [], 0, rfl, .inl rfl, ⟨rfl, fun i v l h => by simp at h⟩, by simp, by simp⟩
  · simp [Value.cells] at hcs
    obtain ⟨rfl, rfl, rfl⟩ := hcs
    have hlm : len0 ≤ m := by rw [hmm]; split <;> omega
    have each : ∀ r, r < len0 → ∃ p : Value × List Tw, W.cell? (a.add r) = some p.1 ∧ (∃ A c, p.1 = .slice A p.2.length c ∧ RdW W A p.2 ∧ (∀ a, A = some a → p.2 ≠ [] → a.block < W.heap.size) ∧ p.2.length ≤ c ∧ c ≤ 9223372036854775807) ∧ ∀ x ∈ p.2, TwOk x := fun r hr => by
      obtain ⟨cs', hc, ht⟩ := hrow r (by omega)
      rw [cells25, Nat.mul_one] at hc
      obtain ⟨A, l, c, rfl, h1, h2, h3, h4⟩ := twigs_of ht
      obtain ⟨_, _, hat⟩ := World.cells?_some hc
      have h0 := hat 0 (by decide)
      rw [show (a.add r).add 0 = a.add r from by simp [Addr.add]] at h0
      exact ⟨(.slice A l.length c, l), h0, ⟨A, c, rfl, h1, h4, h2⟩, h3⟩
    obtain ⟨ps, hps, hp⟩ := exists_list len0 each
    refine ⟨some a, ps.map (·.1), ps.map (·.2), cap0, by rw [List.length_map, hps], ?_, ⟨by simp, fun i v l hv hl2 => ?_⟩, by rw [List.length_map, hps]; unfold maxLen at hm; omega, fun l hl2 x hx => ?_⟩
    · rcases Nat.eq_zero_or_pos len0 with h0 | h0
      · left; exact List.eq_nil_of_length_eq_zero (by rw [List.length_map]; omega)
      · right
        obtain ⟨p, hc0, _, _⟩ := each 0 h0
        obtain ⟨b, off, spot⟩ := a
        have hs : spot = none := by
          have := World.cell?_spot hc0
          simpa [Addr.add] using this
        subst hs
        refine ⟨b, off, rfl, ?_, fun i v hv => ?_⟩
        · have := World.block_lt_of_cell? W _ hc0
          simpa [addr_add] using this
        · rw [List.getElem?_map] at hv
          cases hpi : ps[i]? with
          | none => rw [hpi] at hv; cases hv
          | some p =>
            rw [hpi] at hv
            have hv' : p.1 = v := by simpa using hv
            have h1 := (hp i p hpi).1
            rw [addr_add, hv'] at h1
            exact h1
    · rw [List.getElem?_map] at hv hl2
      cases hpi : ps[i]? with
      | none => rw [hpi] at hv; cases hv
      | some p =>
        rw [hpi] at hv hl2
        have hv' : p.1 = v := by simpa using hv
        have hl' : p.2 = l := by simpa using hl2
        subst hv'; subst hl'
        obtain ⟨A, c, h1, h2, h3, h4⟩ := (hp i p hpi).2.1
        exact ⟨A, c, h1, h2, h3, h4⟩
    · obtain ⟨p, hpm, rfl⟩ := List.mem_map.1 hl2
      obtain ⟨k, hk⟩ := List.getElem?_of_mem hpm
      exact (hp k p hk).2.2 x hx
/-- A tree that begins twigs is the only one. -/
theorem flat_uniq {s t : Tr} {a b : List Tw} (hs : s.ok (fun _ => true)) (ht : t.ok (fun _ => true)) (h : s.flat ++ a = t.flat ++ b) : s.flat = t.flat ∧ a = b := by
  have h1 := wk_ok (s.flat ++ a) s (s.flat ++ a).length 0 1 (fun _ => true) (-1) a hs rfl (by omega)
  have h2 := wk_ok (s.flat ++ a) t (s.flat ++ a).length 0 1 (fun _ => true) (-1) b ht (by rw [List.drop_zero]; exact h) (by omega)
  have hl : s.flat.length = t.flat.length := by
    have := h1.1
    have := h2.1
    omega
  exact List.append_inj h hl
theorem parts_uniq : ∀ {ks : List Tr} {ls : List (List Tw)}, (∀ k ∈ ks, k.ok (fun _ => true)) → (∀ l ∈ ls, ∃ t, Right l t) → ks.length = ls.length → flats ks = ls.flatten → ks.map Tr.flat = ls
  | [], [], _, _, _, _ => rfl
  | [], l :: ls, _, _, h, _ => by simp at h
  | k :: ks, [], _, _, h, _ => by simp at h
  | k :: ks, l :: ls, hk, hl, hn, h => by
    obtain ⟨t, ht1, ht2⟩ := hl l (List.mem_cons_self ..)
    rw [flats, List.flatten_cons, ← ht2] at h
    obtain ⟨e1, e2⟩ := flat_uniq (hk k (List.mem_cons_self ..)) ht1 h
    rw [List.map_cons, e1, ht2, parts_uniq (fun k h => hk k (List.mem_cons_of_mem _ h)) (fun l h => hl l (List.mem_cons_of_mem _ h)) (by simpa using hn) e2]
theorem firstBad_all : ∀ {ls : List (List Tw)}, firstBad ls = 0 → ∀ k ∈ ls, (chk k).2 = 0
  | l :: ls, h, k, hk => by
    rw [firstBad] at h
    split at h
    · rename_i h0
      rcases List.mem_cons.1 hk with rfl | hk
      · exact h0
      · exact firstBad_all h k hk
    · rename_i h0; exact absurd h h0
/-- What Make made is a tree of just these parts. -/
theorem make_made {top : Tw} {ls : List (List Tw)} (h : mkErr top ls = 0) : ∃ ks, Right (outOf top ls) (.node (topOf top ls) ks) ∧ (Tr.node (topOf top ls) ks).depth ≤ 40 ∧ (outOf top ls).length ≤ 2048 ∧ ks.map Tr.flat = ls := by
  unfold mkErr at h
  split at h
  · rename_i hfb
    split at h
    · cases h
    · rename_i hlen
      obtain ⟨_, T, hT, hd⟩ := chk_fine.1 h
      obtain ⟨x, ks⟩ := T
      have hfl := hT.2
      rw [Tr.flat] at hfl
      have hfl2 : x = topOf top ls ∧ flats ks = ls.flatten := by
        unfold outOf at hfl
        injection hfl with h1 h2
        exact ⟨h1, h2⟩
      obtain ⟨rfl, hfl3⟩ := hfl2
      have hok := hT.1
      rw [Tr.ok] at hok
      refine ⟨ks, hT, hd, by omega, parts_uniq (fun k hk => (oks_right ks _ 0 hok.2.2 k hk).1) (fun l hl => ?_) ?_ hfl3⟩
      · obtain ⟨_, t, ht, _⟩ := chk_fine.1 (firstBad_all hfb l hl)
        exact ⟨t, ht⟩
      · have := hok.2.1
        unfold topOf at this
        dsimp only at this
        omega
  · rename_i hfb; exact absurd h hfb
def ManyPost (n : Nat) (w : World) (e : Ending) (w' : World) : Prop := (∃ b : Bool, e = .returned (.bool b) ∧ (b = false → n ≤ 3001)) ∧ w' = w
set_option maxHeartbeats 2000000 in
theorem many_any (P : Option Addr) (c : Nat) (vs : List Value) (ls : List (List Tw)) (w : World) (hP : RdP w P vs) (hF : RdF w vs ls) (hlen : vs.length ≤ 9223372036854775807) :
    Calls Try.prog 17 #[.slice P vs.length c] w (ManyPost vs.length w) := by
  obtain ⟨n, hn⟩ : ∃ n, n = vs.length := ⟨_, rfl⟩
  rw [← hn] at hlen ⊢
  have HN := Lib.hid (And.intro hn (hn.trans hF.len))
  have HP := Lib.hid (And.intro hP hF)
  clear hn hP hF
  go_enter Try.func17, Try.ntmps17
  go_wp2_with fail
  go_loopw [3, 4] (fun s3 s4 wr => wr = w ∧ ∃ (i : Nat) (z : Int), s4 = .int .i64 (i : Nat) ∧ s3 = .int .i64 z ∧ i ≤ n ∧ i ≤ 3001) (fun _ s4 _ => n - (intOf s4).toNat)
  case atStart => exact ⟨rfl, 0, 0, rfl, rfl, by omega, by omega⟩
  case round =>
    obtain ⟨rfl, i, z, rfl, rfl, hi, hi3⟩ := hrel
    by_cases hlt : i < n
    · have hd1 : decide ((i : Int) < (n : Int)) = true := decide_eq_true (by omega)
      by_cases hz : 6000 < z
      · have hd2 : decide ((6000 : Int) < z) = true := decide_eq_true hz
        go_wp2_with fail
        go_ret
        exact ⟨⟨true, rfl, fun h => by cases h⟩, rfl⟩
      · have hd2 : decide ((6000 : Int) < z) = false := decide_eq_false hz
        by_cases hi4 : 3000 < i
        · have hd3 : decide ((3000 : Int) < (i : Int)) = true := decide_eq_true (by omega)
          go_wp2_with fail
          go_ret
          exact ⟨⟨true, rfl, fun h => by cases h⟩, rfl⟩
        · have hd3 : decide ((3000 : Int) < (i : Int)) = false := decide_eq_false (by omega)
          obtain ⟨v, hv⟩ : ∃ v, vs[i]? = some v := ⟨_, List.getElem?_eq_getElem (by rw [← HN.out.1]; exact hlt)⟩
          obtain ⟨l, hl⟩ : ∃ l, ls[i]? = some l := ⟨_, List.getElem?_eq_getElem (by rw [← HN.out.2]; exact hlt)⟩
          obtain ⟨b, off, rfl, _, hat⟩ : ∃ b off, P = some ⟨b, off, none⟩ ∧ b < wr.heap.size ∧ ∀ (i : Nat) (v : Value), vs[i]? = some v → wr.cell? ⟨b, off + i, none⟩ = some v := HP.out.1.resolve_left (fun h => by rw [h] at hv; simp at hv)
          have c0 := hat i v hv
          obtain ⟨A1, c1, rfl, _, _, _⟩ := HP.out.2.at_ i v l hv hl
          generalize l.length = ll at c0
          have hi0 : (0 : Int) ≤ (i : Int) := by omega
          have hin : (i : Int) < (n : Int) := by omega
          clear hat hv hl
          go_wp2_with fail
          go_roundw
          case rel => exact ⟨trivial, i + 1, _, by go_num, rfl, by omega, by omega⟩
          case measure => simp [intOf]; omega
    · have hd1 : decide ((i : Int) < (n : Int)) = false := decide_eq_false (by omega)
      have HI : Hid (n ≤ 3001) := (by omega : n ≤ 3001)
      go_wp2_with fail
      go_ret
      exact ⟨⟨_, rfl, fun _ => HI.out⟩, rfl⟩
end Go.Proofs.Ytpdofcjgpomehaa
