/- Contract of tree.Check, in terms of the plain checker. -/
import Derived.Test.YtpdofcjgpomehaaWkc
namespace Go.Proofs.Ytpdofcjgpomehaa
open Go.RowKit Go.Maps

theorem wkL_wr {g : Nat → Nat → (Nat → Bool) → Int → Nat × Int × Int} {x : Tw} {lv : Nat} (hg : ∀ nx may dp, (g nx lv may dp).2.1 = -1 ∨ 0 ≤ (g nx lv may dp).2.1) : ∀ k i nx dp, (wkL g x lv k i nx dp).2.1 = -1 ∨ 0 ≤ (wkL g x lv k i nx dp).2.1
  | 0, _, _, _ => .inl rfl
  | k + 1, i, nx, dp => by
    unfold wkL
    split
    · exact hg _ _ _
    · exact wkL_wr (x := x) hg k (i + 1) _ _
theorem wk_wr : ∀ f (l : List Tw) at_ lv may dp, (wk f l at_ lv may dp).2.1 = -1 ∨ 0 ≤ (wk f l at_ lv may dp).2.1
  | 0, l, at_, _, _, _ => .inr (by unfold wk; exact Int.natCast_nonneg _)
  | f + 1, l, at_, lv, may, dp => by
    unfold wk
    split
    · exact .inr (Int.natCast_nonneg _)
    · split
      · exact wkL_wr (fun nx may dp => wk_wr f l nx (lv + 1) may dp) _ _ _ _
      · exact .inr (Int.natCast_nonneg _)
theorem walk_any (s : Spot) (A : Option Addr) (c : Nat) (l : List Tw) (hl : l.length ≤ 2048) (hok : ∀ x ∈ l, TwOk x) : ∀ (f at_ lv m : Nat) (caps : Array Value) (P : Nat → Bool) (dp : Int) (w : World), l.length ≤ at_ + f → at_ ≤ l.length → lv ≤ at_ + 1 → Env w s A c l (-1) dp → MayOk w m caps P →
    Calls Try.prog 27 (s.args at_ (lv : Int) m caps) w (WkPost s A c l w (wk f l at_ lv P dp)) := by
  intro f
  induction f with
  | zero =>
    intro at_ lv m caps P dp w h1 h2 h3 henv hmay
    have he : at_ = l.length := by omega
    subst he
    exact walk_end s A c l lv m caps dp w hl henv
  | succ f ih =>
    intro at_ lv m caps P dp w h1 h2 h3 henv hmay
    unfold wk
    cases hx : l[at_]? with
    | none =>
      have he : at_ = l.length := by have := List.getElem?_eq_none_iff.1 hx; omega
      subst he
      exact walk_end s A c l lv m caps dp w hl henv
    | some x =>
      have hlt := (List.getElem?_eq_some_iff.1 hx).1
      refine walk_step s A c l (wk f l) at_ lv m caps P dp w x hx hl (hok x (List.mem_of_getElem? hx)) (by omega) henv hmay (fun nx P dp hn1 hn2 => ?_) (fun nx m caps P dp w hn1 hn2 he hm => ?_)
      · have h := wk_le f l nx (lv + 1) P dp hn2
        exact ⟨h.1, h.2, wk_wr f l nx (lv + 1) P dp⟩
      · have h := ih nx (lv + 1) m caps P dp w (by omega) hn2 (by omega) he hm
        rw [show ((lv + 1 : Nat) : Int) = (lv : Int) + 1 from by omega] at h
        exact h
theorem RdW.below {w w' : World} {A : Option Addr} {l : List Tw} (h : RdW w A l) (hb : Below w.heap.size w w') : RdW w' A l := h.chg (T := fun _ => False) (.of_below hb) (fun _ _ _ h => h)
theorem env_new (w1 : World) (bt gm m : Nat) (A : Option Addr) (c n : Nat) (l : List Tw) (hn : n = l.length) (h1 : Blk w1 bt 25 #[.slice A n c]) (h2 : MapF w1 gm m formOf) (h3 : RdW w1 A l) (h4 : ∀ a, A = some a → l ≠ [] → a.block < w1.heap.size) :
    Env ((((w1.alloc (.cells #[.map (some gm)] 45)).alloc (.cells #[.int .i64 (-1)] 3)).alloc (.cells #[.int .i64 (-1)] 3)).alloc (.cells #[Spot.walk ⟨bt, w1.heap.size + 1, w1.heap.size, w1.heap.size + 1 + 1, w1.heap.size + 1 + 1 + 1, gm, m⟩] 47)) ⟨bt, w1.heap.size + 1, w1.heap.size, w1.heap.size + 1 + 1, w1.heap.size + 1 + 1 + 1, gm, m⟩ A c l (-1) (-1) := by
  subst hn
  have hb : Below w1.heap.size w1 ((((w1.alloc (.cells #[.map (some gm)] 45)).alloc (.cells #[.int .i64 (-1)] 3)).alloc (.cells #[.int .i64 (-1)] 3)).alloc (.cells #[Spot.walk ⟨bt, w1.heap.size + 1, w1.heap.size, w1.heap.size + 1 + 1, w1.heap.size + 1 + 1 + 1, gm, m⟩] 47)) :=
    ((((Below.refl _ _).alloc (Nat.le_refl _) _).alloc (by simp) _).alloc (by simp; omega) _).alloc (by simp; omega) _
  have e1 : (w1.alloc (.cells #[.map (some gm)] 45)).heap.size = w1.heap.size + 1 := by simp
  have e2 : ((w1.alloc (.cells #[.map (some gm)] 45)).alloc (.cells #[.int .i64 (-1)] 3)).heap.size = w1.heap.size + 1 + 1 := by simp
  have e3 : (((w1.alloc (.cells #[.map (some gm)] 45)).alloc (.cells #[.int .i64 (-1)] 3)).alloc (.cells #[.int .i64 (-1)] 3)).heap.size = w1.heap.size + 1 + 1 + 1 := by simp
  have b1 := Blk.new (w1.alloc (.cells #[.map (some gm)] 45)) 3 #[.int .i64 (-1)]
  rw [e1] at b1
  have b2 := Blk.new ((w1.alloc (.cells #[.map (some gm)] 45)).alloc (.cells #[.int .i64 (-1)] 3)) 3 #[.int .i64 (-1)]
  rw [e2] at b2
  have b3 := Blk.new (((w1.alloc (.cells #[.map (some gm)] 45)).alloc (.cells #[.int .i64 (-1)] 3)).alloc (.cells #[.int .i64 (-1)] 3)) 47 #[Spot.walk ⟨bt, w1.heap.size + 1, w1.heap.size, w1.heap.size + 1 + 1, w1.heap.size + 1 + 1 + 1, gm, m⟩]
  rw [e3] at b3
  refine ⟨h1.below hb h1.lt, (b1.alloc _).alloc _, (((Blk.new w1 45 #[.map (some gm)]).alloc _).alloc _).alloc _, b2.alloc _, b3, h2.below hb, h3.below hb, by dsimp only; omega, ?_, fun a ha hl => ?_⟩
  · have := h2.lt
    dsimp only
    omega
  · have := h4 a ha hl
    dsimp only
    omega
/-- What Check says. -/
def chk (l : List Tw) : Int × Int :=
  if 2048 < l.length then (0, 2)
  else if 0 ≤ (wk l.length l 0 1 (fun _ => true) (-1)).2.1 then ((wk l.length l 0 1 (fun _ => true) (-1)).2.1, 3)
  else if (wk l.length l 0 1 (fun _ => true) (-1)).1 < l.length then (((wk l.length l 0 1 (fun _ => true) (-1)).1 : Nat), 3)
  else if 0 ≤ (wk l.length l 0 1 (fun _ => true) (-1)).2.2 then ((wk l.length l 0 1 (fun _ => true) (-1)).2.2, 2)
  else (0, 0)
set_option maxRecDepth 100000 in
set_option maxHeartbeats 4000000 in
theorem check_any (A : Option Addr) (c : Nat) (l : List Tw) (w : World) (hok : ∀ x ∈ l, TwOk x) (hrd : RdW w A l) (hlen : l.length ≤ 9223372036854775807) (hA : ∀ a, A = some a → l ≠ [] → a.block < w.heap.size) :
    Calls Try.prog 20 #[.slice A l.length c] w fun e w' => e = .returned (.tuple #[.int .i64 (chk l).1, .int .i64 (chk l).2]) ∧ Below w.heap.size w w' := by
  obtain ⟨n, hn⟩ : ∃ n, n = l.length := ⟨_, rfl⟩
  obtain ⟨R, hR⟩ : ∃ R, R = wk l.length l 0 1 (fun _ => true) (-1) := ⟨_, rfl⟩
  have hC : chk l = if 2048 < n then (0, 2) else if 0 ≤ R.2.1 then (R.2.1, 3) else if R.1 < n then ((R.1 : Nat), 3) else if 0 ≤ R.2.2 then (R.2.2, 2) else (0, 0) := by rw [hR, hn]; rfl
  obtain ⟨r, hr⟩ : ∃ r, r = chk l := ⟨_, rfl⟩
  rw [← hr] at hC ⊢
  rw [← hn] at hlen ⊢
  have HN := Lib.hid hn
  have HC := Lib.hid hC
  have HOK := Lib.hid (And.intro hok (And.intro hrd hA))
  have HR := Lib.hid hR
  clear hn hC hr hR hok hrd hA
  by_cases hlong : 2048 < n
  · have HC2 := Lib.hid (show r = (0, 2) from by rw [HC.out, if_pos hlong])
    go_enter Try.func20, Try.ntmps20
    go_wp2_with fail
    go_ret2
    rw [HC2.out]
    exact ⟨rfl, (Below.refl _ _).alloc (Nat.le_refl _) _⟩
  · have HF := Lib.hid (fun W => forms_any W)
    go_enter Try.func20, Try.ntmps20
    go_wp2_with fail
    refine (HF.out _).mono ?_
    rintro e w1 ⟨gm, m, rfl, hm, hb, hg⟩
    have hmf : ∀ (fn : Fn) (first cap : Array Value) (w : World), (Instr.makeFunc fn first cap).run Try.prog w = .ok (.func fn first cap) w := fun _ _ _ _ => rfl
    have hb0 : Below w.heap.size w w1 := ((Below.refl _ _).alloc (Nat.le_refl _) _).trans (hb.mono (by simp))
    have hbt : Blk w1 w.heap.size 25 #[.slice A n c] := (Blk.new w 25 #[.slice A n c]).below hb (by simp)
    have HM := Lib.hid (And.intro hm (And.intro hb0 hbt))
    have HG := Lib.hid hg
    clear hm hb hg hb0 hbt
    have HE := Lib.hid (env_new w1 w.heap.size gm m A c n l HN.out HM.out.2.2 HM.out.1 (HOK.out.2.1.below (HM.out.2.1)) (fun a ha hl => Nat.lt_of_lt_of_le (HOK.out.2.2 a ha hl) HM.out.2.1.size))
    have HB5 : Hid (Below w1.heap.size w1 ((((w1.alloc (.cells #[.map (some gm)] 45)).alloc (.cells #[.int .i64 (-1)] 3)).alloc (.cells #[.int .i64 (-1)] 3)).alloc (.cells #[Spot.walk ⟨w.heap.size, w1.heap.size + 1, w1.heap.size, w1.heap.size + 1 + 1, w1.heap.size + 1 + 1 + 1, gm, m⟩] 47))) := ((((Below.refl _ _).alloc (Nat.le_refl _) _).alloc (by simp) _).alloc (by simp; omega) _).alloc (by simp; omega) _
    have HWK := Lib.hid (fun W hE => walk_any ⟨w.heap.size, w1.heap.size + 1, w1.heap.size, w1.heap.size + 1 + 1, w1.heap.size + 1 + 1 + 1, gm, m⟩ A c l (by rw [← HN.out]; omega) HOK.out.1 l.length 0 1 29 #[] (fun _ => true) (-1) W (by omega) (by omega) (by omega) hE (may_true W))
    rw [← HR.out] at HWK
    dsimp only [Spot.walk, Spot.args] at HE HB5 HWK
    go_wp2_with fail
    have HCALL := Lib.hid (HWK.out _ HE.out)
    generalize (((w1.alloc (.cells #[.map (some gm)] 45)).alloc (.cells #[.int .i64 (-1)] 3)).alloc (.cells #[.int .i64 (-1)] 3)).alloc (.cells #[.func (.func 27) #[] #[.pointer (some ⟨w.heap.size, 0, none⟩), .pointer (some ⟨w1.heap.size + 1, 0, none⟩), .pointer (some ⟨w1.heap.size, 0, none⟩), .pointer (some ⟨w1.heap.size + 1 + 1, 0, none⟩), .pointer (some ⟨w1.heap.size + 1 + 1 + 1, 0, none⟩)]] 47) = w5 at *
    clear HE HWK
    refine HCALL.out.mono ?_
    rintro e w6 ⟨rfl, he6, hc6⟩
    have hb6 : Below w.heap.size w w6 := by
      have h := (HM.out.2.1.trans (HB5.out.mono HM.out.2.1.size))
      refine Chg.below h hc6 (Nat.le_trans HM.out.2.1.size HB5.out.size) (fun b hb => ?_)
      have := HM.out.2.1.size
      rcases hb with hb | hb <;> (dsimp only at hb; omega)
    have k1 : w6.cell? ⟨w1.heap.size + 1, 0, none⟩ = some (.int .i64 R.2.1) := he6.wr.cell 0
    have k2 : w6.cell? ⟨w1.heap.size + 1 + 1, 0, none⟩ = some (.int .i64 R.2.2) := he6.dp.cell 0
    have k3 : w6.cell? ⟨w.heap.size, 0, none⟩ = some (.slice A n c) := by rw [HN.out]; exact he6.t.cell 0
    have HB6 := Lib.hid hb6
    clear he6 hc6 hb6 HCALL HB5 HM HG
    obtain ⟨nx, wr, dp⟩ := R
    dsimp only at k1 k2 HC
    by_cases h1 : 0 ≤ wr
    · have d1 : decide (0 ≤ wr) = true := decide_eq_true h1
      have HC2 := Lib.hid (show r = (wr, 3) from by rw [HC.out, if_neg hlong, if_pos h1])
      go_wp2_with fail
      go_ret2
      rw [HC2.out]
      exact ⟨rfl, HB6.out⟩
    · have d1 : decide (0 ≤ wr) = false := decide_eq_false h1
      by_cases h2 : nx < n
      · have d2 : decide ((nx : Int) < (n : Int)) = true := decide_eq_true (by omega)
        have HC2 := Lib.hid (show r = (((nx : Nat) : Int), 3) from by rw [HC.out, if_neg hlong, if_neg h1, if_pos h2])
        go_wp2_with fail
        go_ret2
        rw [HC2.out]
        exact ⟨rfl, HB6.out⟩
      · have d2 : decide ((nx : Int) < (n : Int)) = false := decide_eq_false (by omega)
        by_cases h3 : 0 ≤ dp
        · have d3 : decide (0 ≤ dp) = true := decide_eq_true h3
          have HC2 := Lib.hid (show r = (dp, 2) from by rw [HC.out, if_neg hlong, if_neg h1, if_neg h2, if_pos h3])
          go_wp2_with fail
          go_ret2
          rw [HC2.out]
          exact ⟨rfl, HB6.out⟩
        · have d3 : decide (0 ≤ dp) = false := decide_eq_false h3
          have HC2 := Lib.hid (show r = (0, 0) from by rw [HC.out, if_neg hlong, if_neg h1, if_neg h2, if_neg h3])
          go_wp2_with fail
          go_ret2
          rw [HC2.out]
          exact ⟨rfl, HB6.out⟩
end Go.Proofs.Ytpdofcjgpomehaa
