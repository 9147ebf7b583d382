/- Contract of the checker's walk. And what follows from it. -/
import Derived.Deep.Slices
import Derived.Deep.Fields
import Derived.ChangeSame
import Derived.ProofKit
import Derived.OpenShut
import Derived.Test.YtbcadlocldplfaaDoorQlg
set_option linter.unusedSimpArgs false
set_option linter.unusedVariables false
namespace Go.Proofs.YtbcadlocldplfaaDoor.T8
set_option maxRecDepth 100000
open Go.RowKit Go.Maps
def WkPost (s : Spot) (A : Option Addr) (c : Nat) (l : List Tw) (w : World) (r : Nat × Int × Int) (e : Ending) (w' : World) : Prop :=
  e = .returned (.int .i64 (r.1 : Nat)) ∧ Env w' s A c l r.2.1 r.2.2 ∧ Chg s.own w w'
abbrev Spot.args (s : Spot) (at_ : Nat) (lv : Int) (m : Nat) (caps : Array Value) : Array Value := #[.int .i64 (at_ : Nat), .int .i64 lv, .func (.func m) #[] caps, .pointer (some ⟨s.bt, 0, none⟩), .pointer (some ⟨s.bw, 0, none⟩), .pointer (some ⟨s.bb, 0, none⟩), .pointer (some ⟨s.bd, 0, none⟩), .pointer (some ⟨s.bk, 0, none⟩)]
theorem walk_end (s : Spot) (A : Option Addr) (c : Nat) (l : List Tw) (lv : Int) (m : Nat) (caps : Array Value) (dp : Int) (w : World) (hl : l.length ≤ 2048) (henv : Env w s A c l (-1) dp) :
    Calls Tryd.prog 35 (s.args l.length lv m caps) w (WkPost s A c l w (l.length, (l.length : Int), dp)) := by
  obtain ⟨n, hn⟩ : ∃ n, n = l.length := ⟨_, rfl⟩
  have HE := Lib.hid henv
  have HS := Lib.hid (henv.setW (n : Nat))
  have HCH := Lib.hid (show Chg s.own w (w.setCell ⟨s.bw, 0, none⟩ (.int .i64 (n : Nat))) from ((Chg.refl (fun b => b = s.bw) w).setCell (p := ⟨s.bw, 0, none⟩) rfl _).mono (fun b hb => .inl hb))
  have k1 : w.cell? ⟨s.bt, 0, none⟩ = some (.slice A n c) := by rw [hn]; exact henv.t.cell 0
  have k2 : w.cell? ⟨s.bw, 0, none⟩ = some (.int .i64 (-1)) := henv.wr.cell 0
  have f2 : w.frozen? ⟨s.bw, 0, none⟩ = false := henv.wr.frozen 0
  rw [← hn] at hl ⊢
  have HN := Lib.hid hn
  clear henv hn
  obtain ⟨bt, bw, bb, bd, bk, gm, m0⟩ := s
  dsimp only [Spot.args] at k1 k2 f2 HS HCH ⊢
  go_enter Tryd.func35, Tryd.ntmps35
  go_wp2_with fail
  go_ret
  exact ⟨rfl, HS.out, HCH.out⟩
def ptrInt (v : Value) (w : World) : Nat :=
  match v with
  | .pointer (some a) => (match w.cell? a with | some u => (intOf u).toNat | none => 0)
  | _ => 0
theorem ptrInt_of {w : World} {a : Addr} {i : Nat} (h : w.cell? a = some (.int .i64 (i : Nat))) : ptrInt (.pointer (some a)) w = i := by
  unfold ptrInt
  simp [h, intOf]
theorem ptrInt_new (w : World) (i : Nat) : ptrInt (.pointer (some ⟨w.heap.size, 0, none⟩)) (w.alloc (.cells #[.int .i64 ((i : Int) + 1)] 3)) = i + 1 :=
  ptrInt_of (World.cell?_alloc_new w #[.int .i64 ((i : Int) + 1)] 3 0)
structure LoopR (w' : World) (s : Spot) (A : Option Addr) (c : Nat) (l : List Tw) (wr dp : Int) (bx : Nat) (x : Tw) (bf : Nat) (f : Form) (bi i : Nat) (w : World) : Prop where
  env : Env w' s A c l wr dp
  x : Blk w' bx 42 (twCells x)
  f : Blk w' bf 65 (formCells f)
  i : Blk w' bi 3 #[.int .i64 (i : Nat)]
  ni : bi ≠ s.bw ∧ bi ≠ s.bd
  nx : bx ≠ s.bw ∧ bx ≠ s.bd
  nf : bf ≠ s.bw ∧ bf ≠ s.bd
  chg : Chg s.own w w'
theorem LoopR.nextI {w' w5 : World} {s : Spot} {A : Option Addr} {c : Nat} {l : List Tw} {wr dp : Int} {bx : Nat} {x : Tw} {bf : Nat} {f : Form} {bi i : Nat} {w : World} (h : LoopR w' s A c l wr dp bx x bf f bi i w) (k : Chg s.own w' w5) : Blk w5 bi 3 #[.int .i64 (i : Nat)] :=
  h.i.chg k (fun e => e.elim h.ni.1 h.ni.2)
theorem LoopR.next {w' w5 : World} {s : Spot} {A : Option Addr} {c : Nat} {l : List Tw} {wr dp wr2 dp2 : Int} {bx : Nat} {x : Tw} {bf : Nat} {f : Form} {bi i : Nat} {w : World} (h : LoopR w' s A c l wr dp bx x bf f bi i w) (he : Env w5 s A c l wr2 dp2) (k : Chg s.own w' w5) : LoopR w5 s A c l wr2 dp2 bx x bf f bi i w :=
  ⟨he, h.x.chg k (fun e => e.elim h.nx.1 h.nx.2), h.f.chg k (fun e => e.elim h.nf.1 h.nf.2), h.nextI k, h.ni, h.nx, h.nf, h.chg.trans k⟩
theorem LoopR.fresh {w5 : World} {s : Spot} {A : Option Addr} {c : Nat} {l : List Tw} {wr dp : Int} {bx : Nat} {x : Tw} {bf : Nat} {f : Form} {bi i : Nat} {w : World} (h : LoopR w5 s A c l wr dp bx x bf f bi i w) (j : Nat) (w6 : World) (e : w6 = w5.alloc (.cells #[.int .i64 (j : Nat)] 3)) : LoopR w6 s A c l wr dp bx x bf f w5.heap.size j w := by
  subst e
  have h1 := h.env.wr.lt
  have h2 := h.env.dp.lt
  exact ⟨h.env.below ((Below.refl _ _).alloc (Nat.le_refl _) _), h.x.alloc _, h.f.alloc _, Blk.new _ _ _, ⟨by omega, by omega⟩, h.nx, h.nf, h.chg.alloc _⟩
set_option maxRecDepth 100000 in
set_option maxHeartbeats 8000000 in
theorem walk_step (s : Spot) (A : Option Addr) (c : Nat) (l : List Tw) (g : Nat → Nat → (Nat → Bool) → Int → Nat × Int × Int) (at_ lv m : Nat) (caps : Array Value) (P : Nat → Bool) (dp : Int) (w : World) (x : Tw) (hx : l[at_]? = some x)
    (hl : l.length ≤ 2048) (hok : TwOk x) (hlv : lv ≤ 2049) (henv : Env w s A c l (-1) dp) (hmay : MayOk w m caps P)
    (hg : ∀ nx P dp, at_ < nx → nx ≤ l.length → nx ≤ (g nx (lv + 1) P dp).1 ∧ (g nx (lv + 1) P dp).1 ≤ l.length ∧ ((g nx (lv + 1) P dp).2.1 = -1 ∨ 0 ≤ (g nx (lv + 1) P dp).2.1))
    (ih : ∀ (nx m : Nat) (caps : Array Value) (P : Nat → Bool) (dp : Int) (w : World), at_ < nx → nx ≤ l.length → Env w s A c l (-1) dp → MayOk w m caps P → Calls Tryd.prog 35 (s.args nx ((lv : Int) + 1) m caps) w (WkPost s A c l w (g nx (lv + 1) P dp))) :
    Calls Tryd.prog 35 (s.args at_ lv m caps) w (WkPost s A c l w (if fineB x P then wkL g x (lv + 1) x.kids.toNat 0 (at_ + 1) (if 40 < lv ∧ dp < 0 then (at_ : Int) else dp) else (at_, (at_ : Int), dp))) := by
  obtain ⟨n, hn⟩ : ∃ n, n = l.length := ⟨_, rfl⟩
  have hlt : at_ < n := by rw [hn]; exact (List.getElem?_eq_some_iff.1 hx).1
  obtain ⟨b, off, rfl, hbl, hat⟩ : ∃ b off, A = some ⟨b, off, none⟩ ∧ b < w.heap.size ∧ ∀ k x, l[k]? = some x → TwAt w b (off + k * 4) x := henv.rd.resolve_left (fun h => by rw [h] at hx; cases hx)
  obtain ⟨c0, c1, c2, c3⟩ := hat at_ x hx
  obtain ⟨op, kids, int, text⟩ := x
  dsimp only at c0 c1 c2 c3 ⊢
  obtain ⟨o1, o2, o3, o4, o5, o6⟩ := hok
  dsimp only at o1 o2 o3 o4 o5 o6
  have k1 : w.cell? ⟨s.bt, 0, none⟩ = some (.slice (some ⟨b, off, none⟩) n c) := by rw [hn]; exact henv.t.cell 0
  have k2 : w.cell? ⟨s.bw, 0, none⟩ = some (.int .i64 (-1)) := henv.wr.cell 0
  have f2 : w.frozen? ⟨s.bw, 0, none⟩ = false := henv.wr.frozen 0
  have k3 : w.cell? ⟨s.bb, 0, none⟩ = some (.map (some s.gm)) := henv.tab.cell 0
  have k4 : w.cell? ⟨s.bd, 0, none⟩ = some (.int .i64 dp) := henv.dp.cell 0
  have f4 : w.frozen? ⟨s.bd, 0, none⟩ = false := henv.dp.frozen 0
  have k5 : w.cell? ⟨s.bk, 0, none⟩ = some s.walk := henv.wk.cell 0
  have l1 : s.bt < w.heap.size := henv.t.lt
  have l2 : s.bw < w.heap.size := henv.wr.lt
  have l3 : s.bb < w.heap.size := henv.tab.lt
  have l4 : s.bd < w.heap.size := henv.dp.lt
  have l5 : s.bk < w.heap.size := henv.wk.lt
  have HE := Lib.hid henv
  have HMY := Lib.hid hmay
  have hmcf := hmay.cf
  have HIH := Lib.hid ih
  have HG := Lib.hid hg
  rw [← hn] at hl
  have HN := Lib.hid hn
  have HX := Lib.hid hx
  have a0 : (0 : Int) ≤ (at_ : Int) := by omega
  have a1 : (at_ : Int) < (n : Int) := by omega
  have HS := Lib.hid (fun W (h : Env W s (some ⟨b, off, none⟩) c l (-1) dp) => h.setW (at_ : Nat))
  obtain ⟨R, hR⟩ : ∃ R, R = (if fineB ⟨op, kids, int, text⟩ P then wkL g ⟨op, kids, int, text⟩ (lv + 1) kids.toNat 0 (at_ + 1) (if 40 < lv ∧ dp < 0 then (at_ : Int) else dp) else (at_, (at_ : Int), dp)) := ⟨_, rfl⟩
  rw [← hR]
  have HBAD := Lib.hid (show fineB ⟨op, kids, int, text⟩ P = false → R = (at_, (at_ : Int), dp) from fun h => by rw [hR, h]; rfl)
  have HGD := Lib.hid (show fineB ⟨op, kids, int, text⟩ P = true → R = wkL g ⟨op, kids, int, text⟩ (lv + 1) kids.toNat 0 (at_ + 1) (if 40 < lv ∧ dp < 0 then (at_ : Int) else dp) from fun h => by rw [hR, if_pos h])
  clear henv hmay ih hg hn hx hat hbl hR
  obtain ⟨bt, bw, bb, bd, bk, gm, m0⟩ := s
  dsimp only [Spot.args] at k1 k2 f2 k3 k4 f4 k5 l1 l2 l3 l4 l5 HIH HE HS ⊢
  cases hf : formOf op with
  | none =>
    have HF := Lib.hid hf
    have HRB := Lib.hid (HBAD.out (show fineB ⟨op, kids, int, text⟩ P = false from by unfold fineB; dsimp only; rw [hf]))
    clear hf
    go_enter Tryd.func35, Tryd.ntmps35
    go_wp2_with (at_lookup; refine wpList_lookup_none _ rfl _ _ rfl gm m0 op formOf rfl rfl o1 (HE.out.map.below ((Below.refl _ _).alloc (Nat.le_refl _) _)) HF.out ?_; have H1 := Lib.hid (And.intro (HE.out.below ((Below.refl _ _).alloc (Nat.le_refl _) (.cells #[.int .u8 (op : Nat), .int .i64 kids, .int .i64 int, .string text] 42))) (And.intro (Blk.new w 42 #[.int .u8 (op : Nat), .int .i64 kids, .int .i64 int, .string text]) ((Below.refl w.heap.size w).alloc (Nat.le_refl _) (.cells #[.int .u8 (op : Nat), .int .i64 kids, .int .i64 int, .string text] 42)))); generalize w.alloc (.cells #[.int .u8 (op : Nat), .int .i64 kids, .int .i64 int, .string text] 42) = w1 at *; have HB1 := Lib.hid H1.out.2.2; obtain ⟨bx, hbx⟩ : ∃ g, g = w.heap.size := ⟨_, rfl⟩; rw [← hbx] at H1 ⊢; have HBX := Lib.hid hbx; clear hbx; have y2 : w1.cell? ⟨bw, 0, none⟩ = some (.int .i64 (-1)) := H1.out.1.wr.cell 0; have y3 : w1.frozen? ⟨bw, 0, none⟩ = false := H1.out.1.wr.frozen 0; have y4 : bw < w1.heap.size := H1.out.1.wr.lt; have y5 : bx < w1.heap.size := H1.out.2.1.lt; have x0 : w1.cell? ⟨bx, 0, none⟩ = some (.int .u8 (op : Nat)) := H1.out.2.1.cell 0; have x3 : w1.cell? ⟨bx, 3, none⟩ = some (.string text) := H1.out.2.1.cell 3; clear c0 c1 c2 c3 k1 k2 f2 k3 k4 f4 k5 l1 l2 l3 l4 l5)
    go_ret
    rw [HRB.out]
    exact ⟨rfl, (H1.out.1.setW (at_ : Nat)).below ((Below.refl _ _).alloc (Nat.le_refl _) _), ((Chg.of_below HB1.out).setCell (.inl rfl) _).alloc _⟩
  | some f =>
    have hcf := (enter_form hf).1
    have HF := Lib.hid hf
    have HT := Lib.hid (fun W => text_any hf text W (by unfold maxLen at o6; omega))
    have HMOST := Lib.hid (forms_ok hf).2.2.2
    have HFB := Lib.hid (show fineB ⟨op, kids, int, text⟩ P = (P op && (txtB f.txt text && (decide ((f.least : Int) ≤ kids) && (decide (kids ≤ (f.most : Int)) && (decide (op = 23 ∨ int = 0) && decide (0 ≤ int)))))) from by unfold fineB; dsimp only; rw [hf])
    clear hf
    obtain ⟨ft, fl, fm, fp⟩ := f
    dsimp only at hcf HT HFB HMOST
    go_enter Tryd.func35, Tryd.ntmps35
    go_wp2_with (at_lookup; refine wpList_lookup_some _ rfl _ _ rfl gm m0 op formOf ⟨ft, fl, fm, fp⟩ rfl rfl o1 (HE.out.map.below ((Below.refl _ _).alloc (Nat.le_refl _) _)) HF.out ?_; have H1 := Lib.hid (And.intro (HE.out.below ((Below.refl _ _).alloc (Nat.le_refl _) (.cells #[.int .u8 (op : Nat), .int .i64 kids, .int .i64 int, .string text] 42))) (And.intro (Blk.new w 42 #[.int .u8 (op : Nat), .int .i64 kids, .int .i64 int, .string text]) ((Below.refl w.heap.size w).alloc (Nat.le_refl _) (.cells #[.int .u8 (op : Nat), .int .i64 kids, .int .i64 int, .string text] 42)))); generalize w.alloc (.cells #[.int .u8 (op : Nat), .int .i64 kids, .int .i64 int, .string text] 42) = w1 at *; have HB1 := Lib.hid H1.out.2.2; obtain ⟨bx, hbx⟩ : ∃ g, g = w.heap.size := ⟨_, rfl⟩; rw [← hbx] at H1 ⊢; have HBX := Lib.hid hbx; clear hbx; have y2 : w1.cell? ⟨bw, 0, none⟩ = some (.int .i64 (-1)) := H1.out.1.wr.cell 0; have y3 : w1.frozen? ⟨bw, 0, none⟩ = false := H1.out.1.wr.frozen 0; have y4 : bw < w1.heap.size := H1.out.1.wr.lt; have y5 : bx < w1.heap.size := H1.out.2.1.lt; have x0 : w1.cell? ⟨bx, 0, none⟩ = some (.int .u8 (op : Nat)) := H1.out.2.1.cell 0; have x3 : w1.cell? ⟨bx, 3, none⟩ = some (.string text) := H1.out.2.1.cell 3; clear c0 c1 c2 c3 k1 k2 f2 k3 k4 f4 k5 l1 l2 l3 l4 l5)
    have H2 : Hid (Env (w1.alloc (.cells #[fv ft, .int .i64 (fl : Nat), .int .i64 (fm : Nat), fv fp] 65)) ⟨bt, bw, bb, bd, bk, gm, m0⟩ (some ⟨b, off, none⟩) c l (-1) dp ∧ Blk (w1.alloc (.cells #[fv ft, .int .i64 (fl : Nat), .int .i64 (fm : Nat), fv fp] 65)) bx 42 #[.int .u8 (op : Nat), .int .i64 kids, .int .i64 int, .string text] ∧ Blk (w1.alloc (.cells #[fv ft, .int .i64 (fl : Nat), .int .i64 (fm : Nat), fv fp] 65)) w1.heap.size 65 #[fv ft, .int .i64 (fl : Nat), .int .i64 (fm : Nat), fv fp] ∧ Below w.heap.size w (w1.alloc (.cells #[fv ft, .int .i64 (fl : Nat), .int .i64 (fm : Nat), fv fp] 65))) := by
      exact ⟨H1.out.1.below ((Below.refl _ _).alloc (Nat.le_refl _) _), H1.out.2.1.alloc _, Blk.new _ _ _, HB1.out.alloc HB1.out.size _⟩
    have HND : Hid (bx ≠ bd ∧ w1.heap.size ≠ bd) := by
      have h1 := HE.out.dp.lt
      have h2 := HB1.out.size
      have h3 := HBX.out
      dsimp only at h1
      exact ⟨by omega, by omega⟩
    have HND2 : Hid (bx ≠ bw ∧ w1.heap.size ≠ bw) := by
      have h1 := HE.out.wr.lt
      have h2 := HB1.out.size
      have h3 := HBX.out
      dsimp only at h1
      exact ⟨by omega, by omega⟩
    have HNF : Hid (w.heap.size ≤ w1.heap.size) := HB1.out.size
    clear y2 y3 y4 y5 x0 x3
    generalize w1.alloc (.cells #[fv ft, .int .i64 (fl : Nat), .int .i64 (fm : Nat), fv fp] 65) = w2 at *
    obtain ⟨bf, hbf⟩ : ∃ g, g = w1.heap.size := ⟨_, rfl⟩
    rw [← hbf] at H2 HND HND2 HNF ⊢
    clear hbf H1 HB1
    have z0 : w2.cell? ⟨bx, 0, none⟩ = some (.int .u8 (op : Nat)) := H2.out.2.1.cell 0
    have z1 : w2.cell? ⟨bx, 1, none⟩ = some (.int .i64 kids) := H2.out.2.1.cell 1
    have z2 : w2.cell? ⟨bx, 2, none⟩ = some (.int .i64 int) := H2.out.2.1.cell 2
    have z3 : w2.cell? ⟨bx, 3, none⟩ = some (.string text) := H2.out.2.1.cell 3
    have q0 : w2.cell? ⟨bf, 0, none⟩ = some (fv ft) := H2.out.2.2.1.cell 0
    have q1 : w2.cell? ⟨bf, 1, none⟩ = some (.int .i64 (fl : Nat)) := H2.out.2.2.1.cell 1
    have q2 : w2.cell? ⟨bf, 2, none⟩ = some (.int .i64 (fm : Nat)) := H2.out.2.2.1.cell 2
    have v2 : w2.cell? ⟨bw, 0, none⟩ = some (.int .i64 (-1)) := H2.out.1.wr.cell 0
    have v3 : w2.frozen? ⟨bw, 0, none⟩ = false := H2.out.1.wr.frozen 0
    have v4 : w2.cell? ⟨bd, 0, none⟩ = some (.int .i64 dp) := H2.out.1.dp.cell 0
    have v5 : w2.frozen? ⟨bd, 0, none⟩ = false := H2.out.1.dp.frozen 0
    refine (HMY.out.ok op w2 o1 H2.out.2.2.2).mono ?_
    rintro e w3 ⟨rfl, hw3⟩
    rw [hw3]
    clear hw3 w3
    cases hP : P op
    · have HRB := Lib.hid (HBAD.out (by rw [HFB.out]; rw [hP]; rfl))
      go_wp2_with fail
      go_ret
      rw [HRB.out]
      exact ⟨rfl, H2.out.1.setW (at_ : Nat), (Chg.of_below H2.out.2.2.2).setCell (.inl rfl) _⟩
    · go_wp2_with fail
      refine (HT.out w2).mono ?_
      rintro e w3 ⟨rfl, hw3⟩
      rw [hw3]
      clear hw3 w3
      cases htx : txtB ft text
      · have HRB := Lib.hid (HBAD.out (by rw [HFB.out]; rw [htx]; simp))
        go_wp2_with fail
        go_ret
        rw [HRB.out]
        exact ⟨rfl, H2.out.1.setW (at_ : Nat), (Chg.of_below H2.out.2.2.2).setCell (.inl rfl) _⟩
      · have HFB2 : Hid (fineB ⟨op, kids, int, text⟩ P = (decide ((fl : Int) ≤ kids) && (decide (kids ≤ (fm : Int)) && (decide (op = 23 ∨ int = 0) && decide (0 ≤ int))))) := by rw [HFB.out, hP, htx]; rfl
        clear hP htx HFB
        have HFB := HFB2
        clear HFB2
        by_cases t1 : kids < (fl : Int)
        · have d1 : decide (kids < (fl : Int)) = true := decide_eq_true t1
          have HRB := Lib.hid (HBAD.out (by rw [HFB.out]; rw [decide_eq_false (show ¬ (fl : Int) ≤ kids from by omega)]; rfl))
          go_wp2_with fail
          go_ret
          rw [HRB.out]
          exact ⟨rfl, H2.out.1.setW (at_ : Nat), (Chg.of_below H2.out.2.2.2).setCell (.inl rfl) _⟩
        · have d1 : decide (kids < (fl : Int)) = false := decide_eq_false t1
          by_cases t2 : (fm : Int) < kids
          · have d2 : decide ((fm : Int) < kids) = true := decide_eq_true t2
            have HRB := Lib.hid (HBAD.out (by rw [HFB.out]; rw [decide_eq_false (show ¬ kids ≤ (fm : Int) from by omega)]; simp))
            go_wp2_with fail
            go_ret
            rw [HRB.out]
            exact ⟨rfl, H2.out.1.setW (at_ : Nat), (Chg.of_below H2.out.2.2.2).setCell (.inl rfl) _⟩
          · have d2 : decide ((fm : Int) < kids) = false := decide_eq_false t2
            have d5 : ∀ b, (b = true ↔ (op = 23 ∨ int = 0)) → True := fun _ _ => trivial
            clear d5
            by_cases t3 : op = 23 ∨ int = 0
            · have hbb : (((op : Int) != 23) && (int != 0)) = false := by
                rcases t3 with h | h
                · rw [h]; rfl
                · rw [h]; simp
              by_cases t4 : int < 0
              · have d4 : decide (int < 0) = true := decide_eq_true t4
                have t5 : op = 23 := by omega
                have e5 : ((op : Int) != 23) = false := by rw [t5]; rfl
                have HRB := Lib.hid (HBAD.out (by rw [HFB.out, decide_eq_false (show ¬ 0 ≤ int from by omega)]; simp))
                clear hbb t3 t5
                go_wp2_with fail
                go_ret
                rw [HRB.out]
                exact ⟨rfl, H2.out.1.setW (at_ : Nat), (Chg.of_below H2.out.2.2.2).setCell (.inl rfl) _⟩
              · have d4 : decide (int < 0) = false := decide_eq_false t4
                have HFT := Lib.hid (show fineB ⟨op, kids, int, text⟩ P = true from by rw [HFB.out, decide_eq_true (show (fl : Int) ≤ kids from by omega), decide_eq_true (show kids ≤ (fm : Int) from by omega), decide_eq_true t3, decide_eq_true (show 0 ≤ int from by omega)]; rfl)
                obtain ⟨K, hK⟩ : ∃ K : Nat, K = kids.toNat := ⟨_, rfl⟩
                have HK : Hid (kids = (K : Nat) ∧ K ≤ 2048) := by
                  have := HMOST.out
                  exact ⟨by omega, by omega⟩
                have HGOOD := Lib.hid (HGD.out HFT.out)
                rw [← hK] at HGOOD
                clear HFB HFT HBAD HGD hK
                have e3 : ((op : Int) != 23) = true ∧ (int != 0) = false ∨ ((op : Int) != 23) = false := by
                  by_cases h23 : op = 23
                  · exact .inr (by rw [h23]; rfl)
                  · exact .inl ⟨by rw [bne_iff_ne]; omega, by rw [show int = 0 by omega]; rfl⟩
                clear hbb t3
                have e4 : ∃ u1 u2 : Bool, ((op : Int) != 23) = u1 ∧ (int != 0) = u2 ∧ (u1 && u2) = false := ⟨_, _, rfl, rfl, by rcases e3 with h | h; rw [h.2]; simp; rw [h]; rfl⟩
                clear e4
                rcases e3 with ⟨e3, e5⟩ | e3
                · by_cases h40 : 40 < lv
                  · have d6 : decide ((40 : Int) < (lv : Int)) = true := decide_eq_true (by omega)
                    by_cases hdp : dp < 0
                    · have d7 : decide (dp < 0) = true := decide_eq_true hdp
                      go_wp2_with fail
                      have H4 : Hid (Env ((w2.setCell ⟨bd, 0, none⟩ (.int .i64 (at_ : Nat))).alloc (.cells #[.int .i64 0] 3)) ⟨bt, bw, bb, bd, bk, gm, m0⟩ (some ⟨b, off, none⟩) c l (-1) ((at_ : Nat)) ∧ Blk ((w2.setCell ⟨bd, 0, none⟩ (.int .i64 (at_ : Nat))).alloc (.cells #[.int .i64 0] 3)) bx 42 #[.int .u8 (op : Nat), .int .i64 kids, .int .i64 int, .string text] ∧ Blk ((w2.setCell ⟨bd, 0, none⟩ (.int .i64 (at_ : Nat))).alloc (.cells #[.int .i64 0] 3)) bf 65 #[fv ft, .int .i64 (fl : Nat), .int .i64 (fm : Nat), fv fp] ∧ Blk ((w2.setCell ⟨bd, 0, none⟩ (.int .i64 (at_ : Nat))).alloc (.cells #[.int .i64 0] 3)) (w2.setCell ⟨bd, 0, none⟩ (.int .i64 (at_ : Nat))).heap.size 3 #[.int .i64 0] ∧ Chg (fun b => b = bw ∨ b = bd) w ((w2.setCell ⟨bd, 0, none⟩ (.int .i64 (at_ : Nat))).alloc (.cells #[.int .i64 0] 3)) ∧ w.heap.size ≤ (w2.setCell ⟨bd, 0, none⟩ (.int .i64 (at_ : Nat))).heap.size) := by
                        refine ⟨(H2.out.1.setD (at_ : Nat)).below ((Below.refl _ _).alloc (Nat.le_refl _) _), (Blk.far H2.out.2.1 HND.out.1 _).alloc _, (Blk.far H2.out.2.2.1 HND.out.2 _).alloc _, Blk.new _ _ _, ((Chg.of_below H2.out.2.2.2).setCell (.inr rfl) _).alloc _, ?_⟩
                        have := H2.out.2.2.2.size
                        simpa [World.setCell] using this
                      have hsz : (w2.setCell ⟨bd, 0, none⟩ (.int .i64 (at_ : Nat))).heap.size = w2.heap.size := by simp [World.setCell]
                      rw [hsz] at H4
                      clear hsz
                      have HBI : Hid (w2.heap.size ≠ bw ∧ w2.heap.size ≠ bd) := by
                        have h1 := H2.out.1.wr.lt
                        have h2 := H2.out.1.dp.lt
                        dsimp only at h1 h2
                        exact ⟨by omega, by omega⟩
                      generalize (w2.setCell ⟨bd, 0, none⟩ (.int .i64 (at_ : Nat))).alloc (.cells #[.int .i64 0] 3) = w4 at *
                      generalize w2.heap.size = bi0 at *
                      have HRG : Hid (R = wkL g ⟨op, kids, int, text⟩ (lv + 1) K 0 (at_ + 1) ((at_ : Nat))) := by
                        have h := HGOOD.out
                        rw [if_pos (And.intro h40 hdp)] at h
                        exact h
                      have hmf : ∀ (fn : Fn) (first cap : Array Value) (w : World), (Instr.makeFunc fn first cap).run Tryd.prog w = .ok (.func fn first cap) w := fun _ _ _ _ => rfl
                      clear H2 z0 z1 z2 z3 q0 q1 q2 v2 v3 v4 v5 HGOOD
                      go_loopw [15, 16] (fun s15 s16 wr => ∃ (i nx bi : Nat) (wv dv : Int), s15 = .int .i64 nx ∧ s16 = .pointer (some ⟨bi, 0, none⟩) ∧ i ≤ K ∧ at_ < nx ∧ nx ≤ n ∧ LoopR wr ⟨bt, bw, bb, bd, bk, gm, m0⟩ (some ⟨b, off, none⟩) c l wv dv bx ⟨op, kids, int, text⟩ bf ⟨ft, fl, fm, fp⟩ bi i w ∧ (wv = -1 ∧ R = wkL g ⟨op, kids, int, text⟩ (lv + 1) (K - i) i nx dv ∨ 0 ≤ wv ∧ R = (nx, wv, dv))) (fun _ s16 wr => K - ptrInt s16 wr)
                      case atStart => exact ⟨0, at_ + 1, bi0, -1, (at_ : Nat), by go_num, rfl, by omega, by omega, by omega, ⟨H4.out.1, H4.out.2.1, H4.out.2.2.1, H4.out.2.2.2.1, ⟨HBI.out.1, HBI.out.2⟩, ⟨HND2.out.1, HND.out.1⟩, ⟨HND2.out.2, HND.out.2⟩, H4.out.2.2.2.2.1⟩, .inl ⟨rfl, HRG.out⟩⟩
                      case round =>
                        clear H4 HRG HBI
                        obtain ⟨i, nx, bi, wv, dv, rfl, rfl, hi, hn1, hn2, hLR, hR⟩ := hrel
                        have HLR := Lib.hid hLR
                        have e0 : wr.cell? ⟨bi, 0, none⟩ = some (.int .i64 (i : Nat)) := hLR.i.cell 0
                        have e1 : wr.cell? ⟨bx, 1, none⟩ = some (.int .i64 kids) := hLR.x.cell 1
                        have e2 : wr.cell? ⟨bw, 0, none⟩ = some (.int .i64 wv) := hLR.env.wr.cell 0
                        have e6 : wr.cell? ⟨bk, 0, none⟩ = some (Spot.walk ⟨bt, bw, bb, bd, bk, gm, m0⟩) := hLR.env.wk.cell 0
                        dsimp only [Spot.walk] at e6
                        have HRR := Lib.hid hR
                        have HI0 := Lib.hid e0
                        clear hLR
                        by_cases hik : i < K
                        · have hK3 : i < 2048 := by have := HK.out.2; omega
                          have d8 : decide ((i : Int) < kids) = true := decide_eq_true (by rw [HK.out.1]; omega)
                          rcases hR with ⟨hwv, hR⟩ | ⟨hwv, hR⟩
                          · subst hwv
                            have HR2 := Lib.hid hR
                            obtain ⟨r, hr⟩ : ∃ r, r = g nx (lv + 1) (partOf ⟨op, kids, int, text⟩ i) dv := ⟨_, rfl⟩
                            have HGN := Lib.hid (HG.out nx (partOf ⟨op, kids, int, text⟩ i) dv hn1 (by rw [← HN.out]; exact hn2))
                            have HCALL := Lib.hid (HIH.out nx 36 #[.pointer (some ⟨bf, 0, none⟩), .pointer (some ⟨bi, 0, none⟩), .pointer (some ⟨bx, 0, none⟩)] (partOf ⟨op, kids, int, text⟩ i) dv wr hn1 (by rw [← HN.out]; exact hn2) HLR.out.env (may_part wr bf bi bx ⟨ft, fl, fm, fp⟩ i K ⟨op, kids, int, text⟩ HF.out HLR.out.f HLR.out.i HLR.out.x HK.out.1 hik (by have := HK.out.2; omega)))
                            have HR3 : Hid (R = if 0 ≤ r.2.1 then r else wkL g ⟨op, kids, int, text⟩ (lv + 1) (K - (i + 1)) (i + 1) r.1 r.2.2) := by
                              have h := HR2.out
                              rw [show K - i = (K - (i + 1)) + 1 by omega] at h
                              rw [h, hr]
                              rfl
                            rw [← hr] at HCALL HGN
                            clear hr hR HRR HR2
                            obtain ⟨nx', wv', dv'⟩ := r
                            dsimp only at HGN HR3
                            go_wp2_with fail
                            refine HCALL.out.mono ?_
                            rintro e w5 ⟨rfl, he5, hc5⟩
                            have HL5 := Lib.hid (HLR.out.next he5 hc5)
                            have HL5I := Lib.hid (HLR.out.nextI hc5)
                            have g0 : w5.cell? ⟨bi, 0, none⟩ = some (.int .i64 (i : Nat)) := HL5I.out.cell 0
                            clear he5 hc5 e0 e1 e2 e6 HLR HCALL
                            go_wp2_with fail
                            go_roundw
                            case rel =>
                              refine ⟨i + 1, nx', w5.heap.size, wv', dv', rfl, rfl, by omega, by have := HGN.out; omega, by have := HGN.out; rw [HN.out]; exact this.2.1, ?_, ?_⟩
                              · exact HL5.out.fresh (i + 1) _ (by rw [Int.natCast_add]; rfl)
                              · by_cases hw0 : 0 ≤ wv'
                                · exact .inr ⟨hw0, by have h := HR3.out; rw [if_pos hw0] at h; exact h⟩
                                · exact .inl ⟨by have := HGN.out; omega, by have h := HR3.out; rw [if_neg hw0] at h; exact h⟩
                            case measure => rw [show ptrInt (.pointer (some ⟨w5.heap.size, 0, none⟩)) _ = i + 1 from ptrInt_new w5 i, show ptrInt (.pointer (some ⟨bi, 0, none⟩)) wr = i from ptrInt_of HI0.out]; omega
                          · have d9 : decide (wv < 0) = false := decide_eq_false (by omega)
                            clear HRR
                            have HR2 := Lib.hid hR
                            clear hR
                            go_wp2_with fail
                            go_ret
                            rw [HR2.out]
                            exact ⟨rfl, HLR.out.env, HLR.out.chg⟩
                        · have d8 : decide ((i : Int) < kids) = false := decide_eq_false (by rw [HK.out.1]; omega)
                          have HR2 : Hid (R = (nx, wv, dv)) := by
                            rcases HRR.out with ⟨h1, h2⟩ | ⟨h1, h2⟩
                            · rw [h2, h1, show K - i = 0 by omega]; rfl
                            · exact h2
                          clear hR HRR
                          go_wp2_with fail
                          go_ret
                          rw [HR2.out]
                          exact ⟨rfl, HLR.out.env, HLR.out.chg⟩
                    · have d7 : decide (dp < 0) = false := decide_eq_false hdp
                      go_wp2_with fail
                      have H4 : Hid (Env (w2.alloc (.cells #[.int .i64 0] 3)) ⟨bt, bw, bb, bd, bk, gm, m0⟩ (some ⟨b, off, none⟩) c l (-1) (dp) ∧ Blk (w2.alloc (.cells #[.int .i64 0] 3)) bx 42 #[.int .u8 (op : Nat), .int .i64 kids, .int .i64 int, .string text] ∧ Blk (w2.alloc (.cells #[.int .i64 0] 3)) bf 65 #[fv ft, .int .i64 (fl : Nat), .int .i64 (fm : Nat), fv fp] ∧ Blk (w2.alloc (.cells #[.int .i64 0] 3)) w2.heap.size 3 #[.int .i64 0] ∧ Chg (fun b => b = bw ∨ b = bd) w (w2.alloc (.cells #[.int .i64 0] 3)) ∧ w.heap.size ≤ w2.heap.size) := by
                        refine ⟨H2.out.1.below ((Below.refl _ _).alloc (Nat.le_refl _) _), H2.out.2.1.alloc _, H2.out.2.2.1.alloc _, Blk.new _ _ _, (Chg.of_below H2.out.2.2.2).alloc _, ?_⟩
                        have := H2.out.2.2.2.size
                        exact this
                      have HBI : Hid (w2.heap.size ≠ bw ∧ w2.heap.size ≠ bd) := by
                        have h1 := H2.out.1.wr.lt
                        have h2 := H2.out.1.dp.lt
                        dsimp only at h1 h2
                        exact ⟨by omega, by omega⟩
                      generalize w2.alloc (.cells #[.int .i64 0] 3) = w4 at *
                      generalize w2.heap.size = bi0 at *
                      have HRG : Hid (R = wkL g ⟨op, kids, int, text⟩ (lv + 1) K 0 (at_ + 1) (dp)) := by
                        have h := HGOOD.out
                        rw [if_neg (by omega)] at h
                        exact h
                      have hmf : ∀ (fn : Fn) (first cap : Array Value) (w : World), (Instr.makeFunc fn first cap).run Tryd.prog w = .ok (.func fn first cap) w := fun _ _ _ _ => rfl
                      clear H2 z0 z1 z2 z3 q0 q1 q2 v2 v3 v4 v5 HGOOD
                      go_loopw [15, 16] (fun s15 s16 wr => ∃ (i nx bi : Nat) (wv dv : Int), s15 = .int .i64 nx ∧ s16 = .pointer (some ⟨bi, 0, none⟩) ∧ i ≤ K ∧ at_ < nx ∧ nx ≤ n ∧ LoopR wr ⟨bt, bw, bb, bd, bk, gm, m0⟩ (some ⟨b, off, none⟩) c l wv dv bx ⟨op, kids, int, text⟩ bf ⟨ft, fl, fm, fp⟩ bi i w ∧ (wv = -1 ∧ R = wkL g ⟨op, kids, int, text⟩ (lv + 1) (K - i) i nx dv ∨ 0 ≤ wv ∧ R = (nx, wv, dv))) (fun _ s16 wr => K - ptrInt s16 wr)
                      case atStart => exact ⟨0, at_ + 1, bi0, -1, dp, by go_num, rfl, by omega, by omega, by omega, ⟨H4.out.1, H4.out.2.1, H4.out.2.2.1, H4.out.2.2.2.1, ⟨HBI.out.1, HBI.out.2⟩, ⟨HND2.out.1, HND.out.1⟩, ⟨HND2.out.2, HND.out.2⟩, H4.out.2.2.2.2.1⟩, .inl ⟨rfl, HRG.out⟩⟩
                      case round =>
                        clear H4 HRG HBI
                        obtain ⟨i, nx, bi, wv, dv, rfl, rfl, hi, hn1, hn2, hLR, hR⟩ := hrel
                        have HLR := Lib.hid hLR
                        have e0 : wr.cell? ⟨bi, 0, none⟩ = some (.int .i64 (i : Nat)) := hLR.i.cell 0
                        have e1 : wr.cell? ⟨bx, 1, none⟩ = some (.int .i64 kids) := hLR.x.cell 1
                        have e2 : wr.cell? ⟨bw, 0, none⟩ = some (.int .i64 wv) := hLR.env.wr.cell 0
                        have e6 : wr.cell? ⟨bk, 0, none⟩ = some (Spot.walk ⟨bt, bw, bb, bd, bk, gm, m0⟩) := hLR.env.wk.cell 0
                        dsimp only [Spot.walk] at e6
                        have HRR := Lib.hid hR
                        have HI0 := Lib.hid e0
                        clear hLR
                        by_cases hik : i < K
                        · have hK3 : i < 2048 := by have := HK.out.2; omega
                          have d8 : decide ((i : Int) < kids) = true := decide_eq_true (by rw [HK.out.1]; omega)
                          rcases hR with ⟨hwv, hR⟩ | ⟨hwv, hR⟩
                          · subst hwv
                            have HR2 := Lib.hid hR
                            obtain ⟨r, hr⟩ : ∃ r, r = g nx (lv + 1) (partOf ⟨op, kids, int, text⟩ i) dv := ⟨_, rfl⟩
                            have HGN := Lib.hid (HG.out nx (partOf ⟨op, kids, int, text⟩ i) dv hn1 (by rw [← HN.out]; exact hn2))
                            have HCALL := Lib.hid (HIH.out nx 36 #[.pointer (some ⟨bf, 0, none⟩), .pointer (some ⟨bi, 0, none⟩), .pointer (some ⟨bx, 0, none⟩)] (partOf ⟨op, kids, int, text⟩ i) dv wr hn1 (by rw [← HN.out]; exact hn2) HLR.out.env (may_part wr bf bi bx ⟨ft, fl, fm, fp⟩ i K ⟨op, kids, int, text⟩ HF.out HLR.out.f HLR.out.i HLR.out.x HK.out.1 hik (by have := HK.out.2; omega)))
                            have HR3 : Hid (R = if 0 ≤ r.2.1 then r else wkL g ⟨op, kids, int, text⟩ (lv + 1) (K - (i + 1)) (i + 1) r.1 r.2.2) := by
                              have h := HR2.out
                              rw [show K - i = (K - (i + 1)) + 1 by omega] at h
                              rw [h, hr]
                              rfl
                            rw [← hr] at HCALL HGN
                            clear hr hR HRR HR2
                            obtain ⟨nx', wv', dv'⟩ := r
                            dsimp only at HGN HR3
                            go_wp2_with fail
                            refine HCALL.out.mono ?_
                            rintro e w5 ⟨rfl, he5, hc5⟩
                            have HL5 := Lib.hid (HLR.out.next he5 hc5)
                            have HL5I := Lib.hid (HLR.out.nextI hc5)
                            have g0 : w5.cell? ⟨bi, 0, none⟩ = some (.int .i64 (i : Nat)) := HL5I.out.cell 0
                            clear he5 hc5 e0 e1 e2 e6 HLR HCALL
                            go_wp2_with fail
                            go_roundw
                            case rel =>
                              refine ⟨i + 1, nx', w5.heap.size, wv', dv', rfl, rfl, by omega, by have := HGN.out; omega, by have := HGN.out; rw [HN.out]; exact this.2.1, ?_, ?_⟩
                              · exact HL5.out.fresh (i + 1) _ (by rw [Int.natCast_add]; rfl)
                              · by_cases hw0 : 0 ≤ wv'
                                · exact .inr ⟨hw0, by have h := HR3.out; rw [if_pos hw0] at h; exact h⟩
                                · exact .inl ⟨by have := HGN.out; omega, by have h := HR3.out; rw [if_neg hw0] at h; exact h⟩
                            case measure => rw [show ptrInt (.pointer (some ⟨w5.heap.size, 0, none⟩)) _ = i + 1 from ptrInt_new w5 i, show ptrInt (.pointer (some ⟨bi, 0, none⟩)) wr = i from ptrInt_of HI0.out]; omega
                          · have d9 : decide (wv < 0) = false := decide_eq_false (by omega)
                            clear HRR
                            have HR2 := Lib.hid hR
                            clear hR
                            go_wp2_with fail
                            go_ret
                            rw [HR2.out]
                            exact ⟨rfl, HLR.out.env, HLR.out.chg⟩
                        · have d8 : decide ((i : Int) < kids) = false := decide_eq_false (by rw [HK.out.1]; omega)
                          have HR2 : Hid (R = (nx, wv, dv)) := by
                            rcases HRR.out with ⟨h1, h2⟩ | ⟨h1, h2⟩
                            · rw [h2, h1, show K - i = 0 by omega]; rfl
                            · exact h2
                          clear hR HRR
                          go_wp2_with fail
                          go_ret
                          rw [HR2.out]
                          exact ⟨rfl, HLR.out.env, HLR.out.chg⟩
                  · have d6 : decide ((40 : Int) < (lv : Int)) = false := decide_eq_false (by omega)
                    go_wp2_with fail
                    have H4 : Hid (Env (w2.alloc (.cells #[.int .i64 0] 3)) ⟨bt, bw, bb, bd, bk, gm, m0⟩ (some ⟨b, off, none⟩) c l (-1) (dp) ∧ Blk (w2.alloc (.cells #[.int .i64 0] 3)) bx 42 #[.int .u8 (op : Nat), .int .i64 kids, .int .i64 int, .string text] ∧ Blk (w2.alloc (.cells #[.int .i64 0] 3)) bf 65 #[fv ft, .int .i64 (fl : Nat), .int .i64 (fm : Nat), fv fp] ∧ Blk (w2.alloc (.cells #[.int .i64 0] 3)) w2.heap.size 3 #[.int .i64 0] ∧ Chg (fun b => b = bw ∨ b = bd) w (w2.alloc (.cells #[.int .i64 0] 3)) ∧ w.heap.size ≤ w2.heap.size) := by
                      refine ⟨H2.out.1.below ((Below.refl _ _).alloc (Nat.le_refl _) _), H2.out.2.1.alloc _, H2.out.2.2.1.alloc _, Blk.new _ _ _, (Chg.of_below H2.out.2.2.2).alloc _, ?_⟩
                      have := H2.out.2.2.2.size
                      exact this
                    have HBI : Hid (w2.heap.size ≠ bw ∧ w2.heap.size ≠ bd) := by
                      have h1 := H2.out.1.wr.lt
                      have h2 := H2.out.1.dp.lt
                      dsimp only at h1 h2
                      exact ⟨by omega, by omega⟩
                    generalize w2.alloc (.cells #[.int .i64 0] 3) = w4 at *
                    generalize w2.heap.size = bi0 at *
                    have HRG : Hid (R = wkL g ⟨op, kids, int, text⟩ (lv + 1) K 0 (at_ + 1) (dp)) := by
                      have h := HGOOD.out
                      rw [if_neg (by omega)] at h
                      exact h
                    have hmf : ∀ (fn : Fn) (first cap : Array Value) (w : World), (Instr.makeFunc fn first cap).run Tryd.prog w = .ok (.func fn first cap) w := fun _ _ _ _ => rfl
                    clear H2 z0 z1 z2 z3 q0 q1 q2 v2 v3 v4 v5 HGOOD
                    go_loopw [15, 16] (fun s15 s16 wr => ∃ (i nx bi : Nat) (wv dv : Int), s15 = .int .i64 nx ∧ s16 = .pointer (some ⟨bi, 0, none⟩) ∧ i ≤ K ∧ at_ < nx ∧ nx ≤ n ∧ LoopR wr ⟨bt, bw, bb, bd, bk, gm, m0⟩ (some ⟨b, off, none⟩) c l wv dv bx ⟨op, kids, int, text⟩ bf ⟨ft, fl, fm, fp⟩ bi i w ∧ (wv = -1 ∧ R = wkL g ⟨op, kids, int, text⟩ (lv + 1) (K - i) i nx dv ∨ 0 ≤ wv ∧ R = (nx, wv, dv))) (fun _ s16 wr => K - ptrInt s16 wr)
                    case atStart => exact ⟨0, at_ + 1, bi0, -1, dp, by go_num, rfl, by omega, by omega, by omega, ⟨H4.out.1, H4.out.2.1, H4.out.2.2.1, H4.out.2.2.2.1, ⟨HBI.out.1, HBI.out.2⟩, ⟨HND2.out.1, HND.out.1⟩, ⟨HND2.out.2, HND.out.2⟩, H4.out.2.2.2.2.1⟩, .inl ⟨rfl, HRG.out⟩⟩
                    case round =>
                      clear H4 HRG HBI
                      obtain ⟨i, nx, bi, wv, dv, rfl, rfl, hi, hn1, hn2, hLR, hR⟩ := hrel
                      have HLR := Lib.hid hLR
                      have e0 : wr.cell? ⟨bi, 0, none⟩ = some (.int .i64 (i : Nat)) := hLR.i.cell 0
                      have e1 : wr.cell? ⟨bx, 1, none⟩ = some (.int .i64 kids) := hLR.x.cell 1
                      have e2 : wr.cell? ⟨bw, 0, none⟩ = some (.int .i64 wv) := hLR.env.wr.cell 0
                      have e6 : wr.cell? ⟨bk, 0, none⟩ = some (Spot.walk ⟨bt, bw, bb, bd, bk, gm, m0⟩) := hLR.env.wk.cell 0
                      dsimp only [Spot.walk] at e6
                      have HRR := Lib.hid hR
                      have HI0 := Lib.hid e0
                      clear hLR
                      by_cases hik : i < K
                      · have hK3 : i < 2048 := by have := HK.out.2; omega
                        have d8 : decide ((i : Int) < kids) = true := decide_eq_true (by rw [HK.out.1]; omega)
                        rcases hR with ⟨hwv, hR⟩ | ⟨hwv, hR⟩
                        · subst hwv
                          have HR2 := Lib.hid hR
                          obtain ⟨r, hr⟩ : ∃ r, r = g nx (lv + 1) (partOf ⟨op, kids, int, text⟩ i) dv := ⟨_, rfl⟩
                          have HGN := Lib.hid (HG.out nx (partOf ⟨op, kids, int, text⟩ i) dv hn1 (by rw [← HN.out]; exact hn2))
                          have HCALL := Lib.hid (HIH.out nx 36 #[.pointer (some ⟨bf, 0, none⟩), .pointer (some ⟨bi, 0, none⟩), .pointer (some ⟨bx, 0, none⟩)] (partOf ⟨op, kids, int, text⟩ i) dv wr hn1 (by rw [← HN.out]; exact hn2) HLR.out.env (may_part wr bf bi bx ⟨ft, fl, fm, fp⟩ i K ⟨op, kids, int, text⟩ HF.out HLR.out.f HLR.out.i HLR.out.x HK.out.1 hik (by have := HK.out.2; omega)))
                          have HR3 : Hid (R = if 0 ≤ r.2.1 then r else wkL g ⟨op, kids, int, text⟩ (lv + 1) (K - (i + 1)) (i + 1) r.1 r.2.2) := by
                            have h := HR2.out
                            rw [show K - i = (K - (i + 1)) + 1 by omega] at h
                            rw [h, hr]
                            rfl
                          rw [← hr] at HCALL HGN
                          clear hr hR HRR HR2
                          obtain ⟨nx', wv', dv'⟩ := r
                          dsimp only at HGN HR3
                          go_wp2_with fail
                          refine HCALL.out.mono ?_
                          rintro e w5 ⟨rfl, he5, hc5⟩
                          have HL5 := Lib.hid (HLR.out.next he5 hc5)
                          have HL5I := Lib.hid (HLR.out.nextI hc5)
                          have g0 : w5.cell? ⟨bi, 0, none⟩ = some (.int .i64 (i : Nat)) := HL5I.out.cell 0
                          clear he5 hc5 e0 e1 e2 e6 HLR HCALL
                          go_wp2_with fail
                          go_roundw
                          case rel =>
                            refine ⟨i + 1, nx', w5.heap.size, wv', dv', rfl, rfl, by omega, by have := HGN.out; omega, by have := HGN.out; rw [HN.out]; exact this.2.1, ?_, ?_⟩
                            · exact HL5.out.fresh (i + 1) _ (by rw [Int.natCast_add]; rfl)
                            · by_cases hw0 : 0 ≤ wv'
                              · exact .inr ⟨hw0, by have h := HR3.out; rw [if_pos hw0] at h; exact h⟩
                              · exact .inl ⟨by have := HGN.out; omega, by have h := HR3.out; rw [if_neg hw0] at h; exact h⟩
                          case measure => rw [show ptrInt (.pointer (some ⟨w5.heap.size, 0, none⟩)) _ = i + 1 from ptrInt_new w5 i, show ptrInt (.pointer (some ⟨bi, 0, none⟩)) wr = i from ptrInt_of HI0.out]; omega
                        · have d9 : decide (wv < 0) = false := decide_eq_false (by omega)
                          clear HRR
                          have HR2 := Lib.hid hR
                          clear hR
                          go_wp2_with fail
                          go_ret
                          rw [HR2.out]
                          exact ⟨rfl, HLR.out.env, HLR.out.chg⟩
                      · have d8 : decide ((i : Int) < kids) = false := decide_eq_false (by rw [HK.out.1]; omega)
                        have HR2 : Hid (R = (nx, wv, dv)) := by
                          rcases HRR.out with ⟨h1, h2⟩ | ⟨h1, h2⟩
                          · rw [h2, h1, show K - i = 0 by omega]; rfl
                          · exact h2
                        clear hR HRR
                        go_wp2_with fail
                        go_ret
                        rw [HR2.out]
                        exact ⟨rfl, HLR.out.env, HLR.out.chg⟩
                · by_cases h40 : 40 < lv
                  · have d6 : decide ((40 : Int) < (lv : Int)) = true := decide_eq_true (by omega)
                    by_cases hdp : dp < 0
                    · have d7 : decide (dp < 0) = true := decide_eq_true hdp
                      go_wp2_with fail
                      have H4 : Hid (Env ((w2.setCell ⟨bd, 0, none⟩ (.int .i64 (at_ : Nat))).alloc (.cells #[.int .i64 0] 3)) ⟨bt, bw, bb, bd, bk, gm, m0⟩ (some ⟨b, off, none⟩) c l (-1) ((at_ : Nat)) ∧ Blk ((w2.setCell ⟨bd, 0, none⟩ (.int .i64 (at_ : Nat))).alloc (.cells #[.int .i64 0] 3)) bx 42 #[.int .u8 (op : Nat), .int .i64 kids, .int .i64 int, .string text] ∧ Blk ((w2.setCell ⟨bd, 0, none⟩ (.int .i64 (at_ : Nat))).alloc (.cells #[.int .i64 0] 3)) bf 65 #[fv ft, .int .i64 (fl : Nat), .int .i64 (fm : Nat), fv fp] ∧ Blk ((w2.setCell ⟨bd, 0, none⟩ (.int .i64 (at_ : Nat))).alloc (.cells #[.int .i64 0] 3)) (w2.setCell ⟨bd, 0, none⟩ (.int .i64 (at_ : Nat))).heap.size 3 #[.int .i64 0] ∧ Chg (fun b => b = bw ∨ b = bd) w ((w2.setCell ⟨bd, 0, none⟩ (.int .i64 (at_ : Nat))).alloc (.cells #[.int .i64 0] 3)) ∧ w.heap.size ≤ (w2.setCell ⟨bd, 0, none⟩ (.int .i64 (at_ : Nat))).heap.size) := by
                        refine ⟨(H2.out.1.setD (at_ : Nat)).below ((Below.refl _ _).alloc (Nat.le_refl _) _), (Blk.far H2.out.2.1 HND.out.1 _).alloc _, (Blk.far H2.out.2.2.1 HND.out.2 _).alloc _, Blk.new _ _ _, ((Chg.of_below H2.out.2.2.2).setCell (.inr rfl) _).alloc _, ?_⟩
                        have := H2.out.2.2.2.size
                        simpa [World.setCell] using this
                      have hsz : (w2.setCell ⟨bd, 0, none⟩ (.int .i64 (at_ : Nat))).heap.size = w2.heap.size := by simp [World.setCell]
                      rw [hsz] at H4
                      clear hsz
                      have HBI : Hid (w2.heap.size ≠ bw ∧ w2.heap.size ≠ bd) := by
                        have h1 := H2.out.1.wr.lt
                        have h2 := H2.out.1.dp.lt
                        dsimp only at h1 h2
                        exact ⟨by omega, by omega⟩
                      generalize (w2.setCell ⟨bd, 0, none⟩ (.int .i64 (at_ : Nat))).alloc (.cells #[.int .i64 0] 3) = w4 at *
                      generalize w2.heap.size = bi0 at *
                      have HRG : Hid (R = wkL g ⟨op, kids, int, text⟩ (lv + 1) K 0 (at_ + 1) ((at_ : Nat))) := by
                        have h := HGOOD.out
                        rw [if_pos (And.intro h40 hdp)] at h
                        exact h
                      have hmf : ∀ (fn : Fn) (first cap : Array Value) (w : World), (Instr.makeFunc fn first cap).run Tryd.prog w = .ok (.func fn first cap) w := fun _ _ _ _ => rfl
                      clear H2 z0 z1 z2 z3 q0 q1 q2 v2 v3 v4 v5 HGOOD
                      go_loopw [15, 16] (fun s15 s16 wr => ∃ (i nx bi : Nat) (wv dv : Int), s15 = .int .i64 nx ∧ s16 = .pointer (some ⟨bi, 0, none⟩) ∧ i ≤ K ∧ at_ < nx ∧ nx ≤ n ∧ LoopR wr ⟨bt, bw, bb, bd, bk, gm, m0⟩ (some ⟨b, off, none⟩) c l wv dv bx ⟨op, kids, int, text⟩ bf ⟨ft, fl, fm, fp⟩ bi i w ∧ (wv = -1 ∧ R = wkL g ⟨op, kids, int, text⟩ (lv + 1) (K - i) i nx dv ∨ 0 ≤ wv ∧ R = (nx, wv, dv))) (fun _ s16 wr => K - ptrInt s16 wr)
                      case atStart => exact ⟨0, at_ + 1, bi0, -1, (at_ : Nat), by go_num, rfl, by omega, by omega, by omega, ⟨H4.out.1, H4.out.2.1, H4.out.2.2.1, H4.out.2.2.2.1, ⟨HBI.out.1, HBI.out.2⟩, ⟨HND2.out.1, HND.out.1⟩, ⟨HND2.out.2, HND.out.2⟩, H4.out.2.2.2.2.1⟩, .inl ⟨rfl, HRG.out⟩⟩
                      case round =>
                        clear H4 HRG HBI
                        obtain ⟨i, nx, bi, wv, dv, rfl, rfl, hi, hn1, hn2, hLR, hR⟩ := hrel
                        have HLR := Lib.hid hLR
                        have e0 : wr.cell? ⟨bi, 0, none⟩ = some (.int .i64 (i : Nat)) := hLR.i.cell 0
                        have e1 : wr.cell? ⟨bx, 1, none⟩ = some (.int .i64 kids) := hLR.x.cell 1
                        have e2 : wr.cell? ⟨bw, 0, none⟩ = some (.int .i64 wv) := hLR.env.wr.cell 0
                        have e6 : wr.cell? ⟨bk, 0, none⟩ = some (Spot.walk ⟨bt, bw, bb, bd, bk, gm, m0⟩) := hLR.env.wk.cell 0
                        dsimp only [Spot.walk] at e6
                        have HRR := Lib.hid hR
                        have HI0 := Lib.hid e0
                        clear hLR
                        by_cases hik : i < K
                        · have hK3 : i < 2048 := by have := HK.out.2; omega
                          have d8 : decide ((i : Int) < kids) = true := decide_eq_true (by rw [HK.out.1]; omega)
                          rcases hR with ⟨hwv, hR⟩ | ⟨hwv, hR⟩
                          · subst hwv
                            have HR2 := Lib.hid hR
                            obtain ⟨r, hr⟩ : ∃ r, r = g nx (lv + 1) (partOf ⟨op, kids, int, text⟩ i) dv := ⟨_, rfl⟩
                            have HGN := Lib.hid (HG.out nx (partOf ⟨op, kids, int, text⟩ i) dv hn1 (by rw [← HN.out]; exact hn2))
                            have HCALL := Lib.hid (HIH.out nx 36 #[.pointer (some ⟨bf, 0, none⟩), .pointer (some ⟨bi, 0, none⟩), .pointer (some ⟨bx, 0, none⟩)] (partOf ⟨op, kids, int, text⟩ i) dv wr hn1 (by rw [← HN.out]; exact hn2) HLR.out.env (may_part wr bf bi bx ⟨ft, fl, fm, fp⟩ i K ⟨op, kids, int, text⟩ HF.out HLR.out.f HLR.out.i HLR.out.x HK.out.1 hik (by have := HK.out.2; omega)))
                            have HR3 : Hid (R = if 0 ≤ r.2.1 then r else wkL g ⟨op, kids, int, text⟩ (lv + 1) (K - (i + 1)) (i + 1) r.1 r.2.2) := by
                              have h := HR2.out
                              rw [show K - i = (K - (i + 1)) + 1 by omega] at h
                              rw [h, hr]
                              rfl
                            rw [← hr] at HCALL HGN
                            clear hr hR HRR HR2
                            obtain ⟨nx', wv', dv'⟩ := r
                            dsimp only at HGN HR3
                            go_wp2_with fail
                            refine HCALL.out.mono ?_
                            rintro e w5 ⟨rfl, he5, hc5⟩
                            have HL5 := Lib.hid (HLR.out.next he5 hc5)
                            have HL5I := Lib.hid (HLR.out.nextI hc5)
                            have g0 : w5.cell? ⟨bi, 0, none⟩ = some (.int .i64 (i : Nat)) := HL5I.out.cell 0
                            clear he5 hc5 e0 e1 e2 e6 HLR HCALL
                            go_wp2_with fail
                            go_roundw
                            case rel =>
                              refine ⟨i + 1, nx', w5.heap.size, wv', dv', rfl, rfl, by omega, by have := HGN.out; omega, by have := HGN.out; rw [HN.out]; exact this.2.1, ?_, ?_⟩
                              · exact HL5.out.fresh (i + 1) _ (by rw [Int.natCast_add]; rfl)
                              · by_cases hw0 : 0 ≤ wv'
                                · exact .inr ⟨hw0, by have h := HR3.out; rw [if_pos hw0] at h; exact h⟩
                                · exact .inl ⟨by have := HGN.out; omega, by have h := HR3.out; rw [if_neg hw0] at h; exact h⟩
                            case measure => rw [show ptrInt (.pointer (some ⟨w5.heap.size, 0, none⟩)) _ = i + 1 from ptrInt_new w5 i, show ptrInt (.pointer (some ⟨bi, 0, none⟩)) wr = i from ptrInt_of HI0.out]; omega
                          · have d9 : decide (wv < 0) = false := decide_eq_false (by omega)
                            clear HRR
                            have HR2 := Lib.hid hR
                            clear hR
                            go_wp2_with fail
                            go_ret
                            rw [HR2.out]
                            exact ⟨rfl, HLR.out.env, HLR.out.chg⟩
                        · have d8 : decide ((i : Int) < kids) = false := decide_eq_false (by rw [HK.out.1]; omega)
                          have HR2 : Hid (R = (nx, wv, dv)) := by
                            rcases HRR.out with ⟨h1, h2⟩ | ⟨h1, h2⟩
                            · rw [h2, h1, show K - i = 0 by omega]; rfl
                            · exact h2
                          clear hR HRR
                          go_wp2_with fail
                          go_ret
                          rw [HR2.out]
                          exact ⟨rfl, HLR.out.env, HLR.out.chg⟩
                    · have d7 : decide (dp < 0) = false := decide_eq_false hdp
                      go_wp2_with fail
                      have H4 : Hid (Env (w2.alloc (.cells #[.int .i64 0] 3)) ⟨bt, bw, bb, bd, bk, gm, m0⟩ (some ⟨b, off, none⟩) c l (-1) (dp) ∧ Blk (w2.alloc (.cells #[.int .i64 0] 3)) bx 42 #[.int .u8 (op : Nat), .int .i64 kids, .int .i64 int, .string text] ∧ Blk (w2.alloc (.cells #[.int .i64 0] 3)) bf 65 #[fv ft, .int .i64 (fl : Nat), .int .i64 (fm : Nat), fv fp] ∧ Blk (w2.alloc (.cells #[.int .i64 0] 3)) w2.heap.size 3 #[.int .i64 0] ∧ Chg (fun b => b = bw ∨ b = bd) w (w2.alloc (.cells #[.int .i64 0] 3)) ∧ w.heap.size ≤ w2.heap.size) := by
                        refine ⟨H2.out.1.below ((Below.refl _ _).alloc (Nat.le_refl _) _), H2.out.2.1.alloc _, H2.out.2.2.1.alloc _, Blk.new _ _ _, (Chg.of_below H2.out.2.2.2).alloc _, ?_⟩
                        have := H2.out.2.2.2.size
                        exact this
                      have HBI : Hid (w2.heap.size ≠ bw ∧ w2.heap.size ≠ bd) := by
                        have h1 := H2.out.1.wr.lt
                        have h2 := H2.out.1.dp.lt
                        dsimp only at h1 h2
                        exact ⟨by omega, by omega⟩
                      generalize w2.alloc (.cells #[.int .i64 0] 3) = w4 at *
                      generalize w2.heap.size = bi0 at *
                      have HRG : Hid (R = wkL g ⟨op, kids, int, text⟩ (lv + 1) K 0 (at_ + 1) (dp)) := by
                        have h := HGOOD.out
                        rw [if_neg (by omega)] at h
                        exact h
                      have hmf : ∀ (fn : Fn) (first cap : Array Value) (w : World), (Instr.makeFunc fn first cap).run Tryd.prog w = .ok (.func fn first cap) w := fun _ _ _ _ => rfl
                      clear H2 z0 z1 z2 z3 q0 q1 q2 v2 v3 v4 v5 HGOOD
                      go_loopw [15, 16] (fun s15 s16 wr => ∃ (i nx bi : Nat) (wv dv : Int), s15 = .int .i64 nx ∧ s16 = .pointer (some ⟨bi, 0, none⟩) ∧ i ≤ K ∧ at_ < nx ∧ nx ≤ n ∧ LoopR wr ⟨bt, bw, bb, bd, bk, gm, m0⟩ (some ⟨b, off, none⟩) c l wv dv bx ⟨op, kids, int, text⟩ bf ⟨ft, fl, fm, fp⟩ bi i w ∧ (wv = -1 ∧ R = wkL g ⟨op, kids, int, text⟩ (lv + 1) (K - i) i nx dv ∨ 0 ≤ wv ∧ R = (nx, wv, dv))) (fun _ s16 wr => K - ptrInt s16 wr)
                      case atStart => exact ⟨0, at_ + 1, bi0, -1, dp, by go_num, rfl, by omega, by omega, by omega, ⟨H4.out.1, H4.out.2.1, H4.out.2.2.1, H4.out.2.2.2.1, ⟨HBI.out.1, HBI.out.2⟩, ⟨HND2.out.1, HND.out.1⟩, ⟨HND2.out.2, HND.out.2⟩, H4.out.2.2.2.2.1⟩, .inl ⟨rfl, HRG.out⟩⟩
                      case round =>
                        clear H4 HRG HBI
                        obtain ⟨i, nx, bi, wv, dv, rfl, rfl, hi, hn1, hn2, hLR, hR⟩ := hrel
                        have HLR := Lib.hid hLR
                        have e0 : wr.cell? ⟨bi, 0, none⟩ = some (.int .i64 (i : Nat)) := hLR.i.cell 0
                        have e1 : wr.cell? ⟨bx, 1, none⟩ = some (.int .i64 kids) := hLR.x.cell 1
                        have e2 : wr.cell? ⟨bw, 0, none⟩ = some (.int .i64 wv) := hLR.env.wr.cell 0
                        have e6 : wr.cell? ⟨bk, 0, none⟩ = some (Spot.walk ⟨bt, bw, bb, bd, bk, gm, m0⟩) := hLR.env.wk.cell 0
                        dsimp only [Spot.walk] at e6
                        have HRR := Lib.hid hR
                        have HI0 := Lib.hid e0
                        clear hLR
                        by_cases hik : i < K
                        · have hK3 : i < 2048 := by have := HK.out.2; omega
                          have d8 : decide ((i : Int) < kids) = true := decide_eq_true (by rw [HK.out.1]; omega)
                          rcases hR with ⟨hwv, hR⟩ | ⟨hwv, hR⟩
                          · subst hwv
                            have HR2 := Lib.hid hR
                            obtain ⟨r, hr⟩ : ∃ r, r = g nx (lv + 1) (partOf ⟨op, kids, int, text⟩ i) dv := ⟨_, rfl⟩
                            have HGN := Lib.hid (HG.out nx (partOf ⟨op, kids, int, text⟩ i) dv hn1 (by rw [← HN.out]; exact hn2))
                            have HCALL := Lib.hid (HIH.out nx 36 #[.pointer (some ⟨bf, 0, none⟩), .pointer (some ⟨bi, 0, none⟩), .pointer (some ⟨bx, 0, none⟩)] (partOf ⟨op, kids, int, text⟩ i) dv wr hn1 (by rw [← HN.out]; exact hn2) HLR.out.env (may_part wr bf bi bx ⟨ft, fl, fm, fp⟩ i K ⟨op, kids, int, text⟩ HF.out HLR.out.f HLR.out.i HLR.out.x HK.out.1 hik (by have := HK.out.2; omega)))
                            have HR3 : Hid (R = if 0 ≤ r.2.1 then r else wkL g ⟨op, kids, int, text⟩ (lv + 1) (K - (i + 1)) (i + 1) r.1 r.2.2) := by
                              have h := HR2.out
                              rw [show K - i = (K - (i + 1)) + 1 by omega] at h
                              rw [h, hr]
                              rfl
                            rw [← hr] at HCALL HGN
                            clear hr hR HRR HR2
                            obtain ⟨nx', wv', dv'⟩ := r
                            dsimp only at HGN HR3
                            go_wp2_with fail
                            refine HCALL.out.mono ?_
                            rintro e w5 ⟨rfl, he5, hc5⟩
                            have HL5 := Lib.hid (HLR.out.next he5 hc5)
                            have HL5I := Lib.hid (HLR.out.nextI hc5)
                            have g0 : w5.cell? ⟨bi, 0, none⟩ = some (.int .i64 (i : Nat)) := HL5I.out.cell 0
                            clear he5 hc5 e0 e1 e2 e6 HLR HCALL
                            go_wp2_with fail
                            go_roundw
                            case rel =>
                              refine ⟨i + 1, nx', w5.heap.size, wv', dv', rfl, rfl, by omega, by have := HGN.out; omega, by have := HGN.out; rw [HN.out]; exact this.2.1, ?_, ?_⟩
                              · exact HL5.out.fresh (i + 1) _ (by rw [Int.natCast_add]; rfl)
                              · by_cases hw0 : 0 ≤ wv'
                                · exact .inr ⟨hw0, by have h := HR3.out; rw [if_pos hw0] at h; exact h⟩
                                · exact .inl ⟨by have := HGN.out; omega, by have h := HR3.out; rw [if_neg hw0] at h; exact h⟩
                            case measure => rw [show ptrInt (.pointer (some ⟨w5.heap.size, 0, none⟩)) _ = i + 1 from ptrInt_new w5 i, show ptrInt (.pointer (some ⟨bi, 0, none⟩)) wr = i from ptrInt_of HI0.out]; omega
                          · have d9 : decide (wv < 0) = false := decide_eq_false (by omega)
                            clear HRR
                            have HR2 := Lib.hid hR
                            clear hR
                            go_wp2_with fail
                            go_ret
                            rw [HR2.out]
                            exact ⟨rfl, HLR.out.env, HLR.out.chg⟩
                        · have d8 : decide ((i : Int) < kids) = false := decide_eq_false (by rw [HK.out.1]; omega)
                          have HR2 : Hid (R = (nx, wv, dv)) := by
                            rcases HRR.out with ⟨h1, h2⟩ | ⟨h1, h2⟩
                            · rw [h2, h1, show K - i = 0 by omega]; rfl
                            · exact h2
                          clear hR HRR
                          go_wp2_with fail
                          go_ret
                          rw [HR2.out]
                          exact ⟨rfl, HLR.out.env, HLR.out.chg⟩
                  · have d6 : decide ((40 : Int) < (lv : Int)) = false := decide_eq_false (by omega)
                    go_wp2_with fail
                    have H4 : Hid (Env (w2.alloc (.cells #[.int .i64 0] 3)) ⟨bt, bw, bb, bd, bk, gm, m0⟩ (some ⟨b, off, none⟩) c l (-1) (dp) ∧ Blk (w2.alloc (.cells #[.int .i64 0] 3)) bx 42 #[.int .u8 (op : Nat), .int .i64 kids, .int .i64 int, .string text] ∧ Blk (w2.alloc (.cells #[.int .i64 0] 3)) bf 65 #[fv ft, .int .i64 (fl : Nat), .int .i64 (fm : Nat), fv fp] ∧ Blk (w2.alloc (.cells #[.int .i64 0] 3)) w2.heap.size 3 #[.int .i64 0] ∧ Chg (fun b => b = bw ∨ b = bd) w (w2.alloc (.cells #[.int .i64 0] 3)) ∧ w.heap.size ≤ w2.heap.size) := by
                      refine ⟨H2.out.1.below ((Below.refl _ _).alloc (Nat.le_refl _) _), H2.out.2.1.alloc _, H2.out.2.2.1.alloc _, Blk.new _ _ _, (Chg.of_below H2.out.2.2.2).alloc _, ?_⟩
                      have := H2.out.2.2.2.size
                      exact this
                    have HBI : Hid (w2.heap.size ≠ bw ∧ w2.heap.size ≠ bd) := by
                      have h1 := H2.out.1.wr.lt
                      have h2 := H2.out.1.dp.lt
                      dsimp only at h1 h2
                      exact ⟨by omega, by omega⟩
                    generalize w2.alloc (.cells #[.int .i64 0] 3) = w4 at *
                    generalize w2.heap.size = bi0 at *
                    have HRG : Hid (R = wkL g ⟨op, kids, int, text⟩ (lv + 1) K 0 (at_ + 1) (dp)) := by
                      have h := HGOOD.out
                      rw [if_neg (by omega)] at h
                      exact h
                    have hmf : ∀ (fn : Fn) (first cap : Array Value) (w : World), (Instr.makeFunc fn first cap).run Tryd.prog w = .ok (.func fn first cap) w := fun _ _ _ _ => rfl
                    clear H2 z0 z1 z2 z3 q0 q1 q2 v2 v3 v4 v5 HGOOD
                    go_loopw [15, 16] (fun s15 s16 wr => ∃ (i nx bi : Nat) (wv dv : Int), s15 = .int .i64 nx ∧ s16 = .pointer (some ⟨bi, 0, none⟩) ∧ i ≤ K ∧ at_ < nx ∧ nx ≤ n ∧ LoopR wr ⟨bt, bw, bb, bd, bk, gm, m0⟩ (some ⟨b, off, none⟩) c l wv dv bx ⟨op, kids, int, text⟩ bf ⟨ft, fl, fm, fp⟩ bi i w ∧ (wv = -1 ∧ R = wkL g ⟨op, kids, int, text⟩ (lv + 1) (K - i) i nx dv ∨ 0 ≤ wv ∧ R = (nx, wv, dv))) (fun _ s16 wr => K - ptrInt s16 wr)
                    case atStart => exact ⟨0, at_ + 1, bi0, -1, dp, by go_num, rfl, by omega, by omega, by omega, ⟨H4.out.1, H4.out.2.1, H4.out.2.2.1, H4.out.2.2.2.1, ⟨HBI.out.1, HBI.out.2⟩, ⟨HND2.out.1, HND.out.1⟩, ⟨HND2.out.2, HND.out.2⟩, H4.out.2.2.2.2.1⟩, .inl ⟨rfl, HRG.out⟩⟩
                    case round =>
                      clear H4 HRG HBI
                      obtain ⟨i, nx, bi, wv, dv, rfl, rfl, hi, hn1, hn2, hLR, hR⟩ := hrel
                      have HLR := Lib.hid hLR
                      have e0 : wr.cell? ⟨bi, 0, none⟩ = some (.int .i64 (i : Nat)) := hLR.i.cell 0
                      have e1 : wr.cell? ⟨bx, 1, none⟩ = some (.int .i64 kids) := hLR.x.cell 1
                      have e2 : wr.cell? ⟨bw, 0, none⟩ = some (.int .i64 wv) := hLR.env.wr.cell 0
                      have e6 : wr.cell? ⟨bk, 0, none⟩ = some (Spot.walk ⟨bt, bw, bb, bd, bk, gm, m0⟩) := hLR.env.wk.cell 0
                      dsimp only [Spot.walk] at e6
                      have HRR := Lib.hid hR
                      have HI0 := Lib.hid e0
                      clear hLR
                      by_cases hik : i < K
                      · have hK3 : i < 2048 := by have := HK.out.2; omega
                        have d8 : decide ((i : Int) < kids) = true := decide_eq_true (by rw [HK.out.1]; omega)
                        rcases hR with ⟨hwv, hR⟩ | ⟨hwv, hR⟩
                        · subst hwv
                          have HR2 := Lib.hid hR
                          obtain ⟨r, hr⟩ : ∃ r, r = g nx (lv + 1) (partOf ⟨op, kids, int, text⟩ i) dv := ⟨_, rfl⟩
                          have HGN := Lib.hid (HG.out nx (partOf ⟨op, kids, int, text⟩ i) dv hn1 (by rw [← HN.out]; exact hn2))
                          have HCALL := Lib.hid (HIH.out nx 36 #[.pointer (some ⟨bf, 0, none⟩), .pointer (some ⟨bi, 0, none⟩), .pointer (some ⟨bx, 0, none⟩)] (partOf ⟨op, kids, int, text⟩ i) dv wr hn1 (by rw [← HN.out]; exact hn2) HLR.out.env (may_part wr bf bi bx ⟨ft, fl, fm, fp⟩ i K ⟨op, kids, int, text⟩ HF.out HLR.out.f HLR.out.i HLR.out.x HK.out.1 hik (by have := HK.out.2; omega)))
                          have HR3 : Hid (R = if 0 ≤ r.2.1 then r else wkL g ⟨op, kids, int, text⟩ (lv + 1) (K - (i + 1)) (i + 1) r.1 r.2.2) := by
                            have h := HR2.out
                            rw [show K - i = (K - (i + 1)) + 1 by omega] at h
                            rw [h, hr]
                            rfl
                          rw [← hr] at HCALL HGN
                          clear hr hR HRR HR2
                          obtain ⟨nx', wv', dv'⟩ := r
                          dsimp only at HGN HR3
                          go_wp2_with fail
                          refine HCALL.out.mono ?_
                          rintro e w5 ⟨rfl, he5, hc5⟩
                          have HL5 := Lib.hid (HLR.out.next he5 hc5)
                          have HL5I := Lib.hid (HLR.out.nextI hc5)
                          have g0 : w5.cell? ⟨bi, 0, none⟩ = some (.int .i64 (i : Nat)) := HL5I.out.cell 0
                          clear he5 hc5 e0 e1 e2 e6 HLR HCALL
                          go_wp2_with fail
                          go_roundw
                          case rel =>
                            refine ⟨i + 1, nx', w5.heap.size, wv', dv', rfl, rfl, by omega, by have := HGN.out; omega, by have := HGN.out; rw [HN.out]; exact this.2.1, ?_, ?_⟩
                            · exact HL5.out.fresh (i + 1) _ (by rw [Int.natCast_add]; rfl)
                            · by_cases hw0 : 0 ≤ wv'
                              · exact .inr ⟨hw0, by have h := HR3.out; rw [if_pos hw0] at h; exact h⟩
                              · exact .inl ⟨by have := HGN.out; omega, by have h := HR3.out; rw [if_neg hw0] at h; exact h⟩
                          case measure => rw [show ptrInt (.pointer (some ⟨w5.heap.size, 0, none⟩)) _ = i + 1 from ptrInt_new w5 i, show ptrInt (.pointer (some ⟨bi, 0, none⟩)) wr = i from ptrInt_of HI0.out]; omega
                        · have d9 : decide (wv < 0) = false := decide_eq_false (by omega)
                          clear HRR
                          have HR2 := Lib.hid hR
                          clear hR
                          go_wp2_with fail
                          go_ret
                          rw [HR2.out]
                          exact ⟨rfl, HLR.out.env, HLR.out.chg⟩
                      · have d8 : decide ((i : Int) < kids) = false := decide_eq_false (by rw [HK.out.1]; omega)
                        have HR2 : Hid (R = (nx, wv, dv)) := by
                          rcases HRR.out with ⟨h1, h2⟩ | ⟨h1, h2⟩
                          · rw [h2, h1, show K - i = 0 by omega]; rfl
                          · exact h2
                        clear hR HRR
                        go_wp2_with fail
                        go_ret
                        rw [HR2.out]
                        exact ⟨rfl, HLR.out.env, HLR.out.chg⟩
            · have HRB := Lib.hid (HBAD.out (by rw [HFB.out, decide_eq_false t3]; simp))
              have e3 : ((op : Int) != 23) = true := by rw [bne_iff_ne]; omega
              have e5 : (int != 0) = true := by rw [bne_iff_ne]; omega
              clear t3
              go_wp2_with fail
              go_ret
              rw [HRB.out]
              exact ⟨rfl, H2.out.1.setW (at_ : Nat), (Chg.of_below H2.out.2.2.2).setCell (.inl rfl) _⟩
theorem wkL_wr {g : Nat → Nat → (Nat → Bool) → Int → Nat × Int × Int} {x : Tw} {lv : Nat} (hg : ∀ nx may dp, (g nx lv may dp).2.1 = -1 ∨ 0 ≤ (g nx lv may dp).2.1) : ∀ k i nx dp, (wkL g x lv k i nx dp).2.1 = -1 ∨ 0 ≤ (wkL g x lv k i nx dp).2.1
  | 0, _, _, _ => .inl rfl
  | k + 1, i, nx, dp => by
    unfold wkL
    split
    · exact hg _ _ _
    · exact wkL_wr (x := x) hg k (i + 1) _ _
theorem wk_wr : ∀ f (l : List Tw) at_ lv may dp, (wk f l at_ lv may dp).2.1 = -1 ∨ 0 ≤ (wk f l at_ lv may dp).2.1
  | 0, l, at_, _, _, _ => .inr (by unfold wk; exact Int.natCast_nonneg _)
  | f + 1, l, at_, lv, may, dp => by
    unfold wk
    split
    · exact .inr (Int.natCast_nonneg _)
    · split
      · exact wkL_wr (fun nx may dp => wk_wr f l nx (lv + 1) may dp) _ _ _ _
      · exact .inr (Int.natCast_nonneg _)
theorem walk_any (s : Spot) (A : Option Addr) (c : Nat) (l : List Tw) (hl : l.length ≤ 2048) (hok : ∀ x ∈ l, TwOk x) : ∀ (f at_ lv m : Nat) (caps : Array Value) (P : Nat → Bool) (dp : Int) (w : World), l.length ≤ at_ + f → at_ ≤ l.length → lv ≤ at_ + 1 → Env w s A c l (-1) dp → MayOk w m caps P →
    Calls Tryd.prog 35 (s.args at_ (lv : Int) m caps) w (WkPost s A c l w (wk f l at_ lv P dp)) := by
  intro f
  induction f with
  | zero =>
    intro at_ lv m caps P dp w h1 h2 h3 henv hmay
    have he : at_ = l.length := by omega
    subst he
    exact walk_end s A c l lv m caps dp w hl henv
  | succ f ih =>
    intro at_ lv m caps P dp w h1 h2 h3 henv hmay
    unfold wk
    cases hx : l[at_]? with
    | none =>
      have he : at_ = l.length := by have := List.getElem?_eq_none_iff.1 hx; omega
      subst he
      exact walk_end s A c l lv m caps dp w hl henv
    | some x =>
      have hlt := (List.getElem?_eq_some_iff.1 hx).1
      refine walk_step s A c l (wk f l) at_ lv m caps P dp w x hx hl (hok x (List.mem_of_getElem? hx)) (by omega) henv hmay (fun nx P dp hn1 hn2 => ?_) (fun nx m caps P dp w hn1 hn2 he hm => ?_)
      · have h := wk_le f l nx (lv + 1) P dp hn2
        exact ⟨h.1, h.2, wk_wr f l nx (lv + 1) P dp⟩
      · have h := ih nx (lv + 1) m caps P dp w (by omega) hn2 (by omega) he hm
        rw [show ((lv + 1 : Nat) : Int) = (lv : Int) + 1 from by omega] at h
        exact h
theorem RdW.below {w w' : World} {A : Option Addr} {l : List Tw} (h : RdW w A l) (hb : Below w.heap.size w w') : RdW w' A l := h.chg (T := fun _ => False) (.of_below hb) (fun _ _ _ h => h)
theorem env_new (w1 : World) (bt gm m : Nat) (A : Option Addr) (c n : Nat) (l : List Tw) (hn : n = l.length) (h1 : Blk w1 bt 23 #[.slice A n c]) (h2 : MapF w1 gm m formOf) (h3 : RdW w1 A l) (h4 : ∀ a, A = some a → l ≠ [] → a.block < w1.heap.size) :
    Env ((((w1.alloc (.cells #[.map (some gm)] 60)).alloc (.cells #[.int .i64 (-1)] 3)).alloc (.cells #[.int .i64 (-1)] 3)).alloc (.cells #[Spot.walk ⟨bt, w1.heap.size + 1, w1.heap.size, w1.heap.size + 1 + 1, w1.heap.size + 1 + 1 + 1, gm, m⟩] 62)) ⟨bt, w1.heap.size + 1, w1.heap.size, w1.heap.size + 1 + 1, w1.heap.size + 1 + 1 + 1, gm, m⟩ A c l (-1) (-1) := by
  subst hn
  have hb : Below w1.heap.size w1 ((((w1.alloc (.cells #[.map (some gm)] 60)).alloc (.cells #[.int .i64 (-1)] 3)).alloc (.cells #[.int .i64 (-1)] 3)).alloc (.cells #[Spot.walk ⟨bt, w1.heap.size + 1, w1.heap.size, w1.heap.size + 1 + 1, w1.heap.size + 1 + 1 + 1, gm, m⟩] 62)) :=
    ((((Below.refl _ _).alloc (Nat.le_refl _) _).alloc (by simp) _).alloc (by simp; omega) _).alloc (by simp; omega) _
  have e1 : (w1.alloc (.cells #[.map (some gm)] 60)).heap.size = w1.heap.size + 1 := by simp
  have e2 : ((w1.alloc (.cells #[.map (some gm)] 60)).alloc (.cells #[.int .i64 (-1)] 3)).heap.size = w1.heap.size + 1 + 1 := by simp
  have e3 : (((w1.alloc (.cells #[.map (some gm)] 60)).alloc (.cells #[.int .i64 (-1)] 3)).alloc (.cells #[.int .i64 (-1)] 3)).heap.size = w1.heap.size + 1 + 1 + 1 := by simp
  have b1 := Blk.new (w1.alloc (.cells #[.map (some gm)] 60)) 3 #[.int .i64 (-1)]
  rw [e1] at b1
  have b2 := Blk.new ((w1.alloc (.cells #[.map (some gm)] 60)).alloc (.cells #[.int .i64 (-1)] 3)) 3 #[.int .i64 (-1)]
  rw [e2] at b2
  have b3 := Blk.new (((w1.alloc (.cells #[.map (some gm)] 60)).alloc (.cells #[.int .i64 (-1)] 3)).alloc (.cells #[.int .i64 (-1)] 3)) 62 #[Spot.walk ⟨bt, w1.heap.size + 1, w1.heap.size, w1.heap.size + 1 + 1, w1.heap.size + 1 + 1 + 1, gm, m⟩]
  rw [e3] at b3
  refine ⟨h1.below hb h1.lt, (b1.alloc _).alloc _, (((Blk.new w1 60 #[.map (some gm)]).alloc _).alloc _).alloc _, b2.alloc _, b3, h2.below hb, h3.below hb, by dsimp only; omega, ?_, fun a ha hl => ?_⟩
  · have := h2.lt
    dsimp only
    omega
  · have := h4 a ha hl
    dsimp only
    omega
def chk (l : List Tw) : Int × Int :=
  if 2048 < l.length then (0, 2)
  else if 0 ≤ (wk l.length l 0 1 (fun _ => true) (-1)).2.1 then ((wk l.length l 0 1 (fun _ => true) (-1)).2.1, 3)
  else if (wk l.length l 0 1 (fun _ => true) (-1)).1 < l.length then (((wk l.length l 0 1 (fun _ => true) (-1)).1 : Nat), 3)
  else if 0 ≤ (wk l.length l 0 1 (fun _ => true) (-1)).2.2 then ((wk l.length l 0 1 (fun _ => true) (-1)).2.2, 2)
  else (0, 0)
set_option maxRecDepth 100000 in
set_option maxHeartbeats 4000000 in
theorem check_any (A : Option Addr) (c : Nat) (l : List Tw) (w : World) (hok : ∀ x ∈ l, TwOk x) (hrd : RdW w A l) (hlen : l.length ≤ 9223372036854775807) (hA : ∀ a, A = some a → l ≠ [] → a.block < w.heap.size) :
    Calls Tryd.prog 18 #[.slice A l.length c] w fun e w' => e = .returned (.tuple #[.int .i64 (chk l).1, .int .i64 (chk l).2]) ∧ Below w.heap.size w w' := by
  obtain ⟨n, hn⟩ : ∃ n, n = l.length := ⟨_, rfl⟩
  obtain ⟨R, hR⟩ : ∃ R, R = wk l.length l 0 1 (fun _ => true) (-1) := ⟨_, rfl⟩
  have hC : chk l = if 2048 < n then (0, 2) else if 0 ≤ R.2.1 then (R.2.1, 3) else if R.1 < n then ((R.1 : Nat), 3) else if 0 ≤ R.2.2 then (R.2.2, 2) else (0, 0) := by rw [hR, hn]; rfl
  obtain ⟨r, hr⟩ : ∃ r, r = chk l := ⟨_, rfl⟩
  rw [← hr] at hC ⊢
  rw [← hn] at hlen ⊢
  have HN := Lib.hid hn
  have HC := Lib.hid hC
  have HOK := Lib.hid (And.intro hok (And.intro hrd hA))
  have HR := Lib.hid hR
  clear hn hC hr hR hok hrd hA
  by_cases hlong : 2048 < n
  · have HC2 := Lib.hid (show r = (0, 2) from by rw [HC.out, if_pos hlong])
    go_enter Tryd.func18, Tryd.ntmps18
    go_wp2_with fail
    go_ret2
    rw [HC2.out]
    exact ⟨rfl, (Below.refl _ _).alloc (Nat.le_refl _) _⟩
  · have HF := Lib.hid (fun W => forms_any W)
    go_enter Tryd.func18, Tryd.ntmps18
    go_wp2_with fail
    refine (HF.out _).mono ?_
    rintro e w1 ⟨gm, m, rfl, hm, hb, hg⟩
    have hmf : ∀ (fn : Fn) (first cap : Array Value) (w : World), (Instr.makeFunc fn first cap).run Tryd.prog w = .ok (.func fn first cap) w := fun _ _ _ _ => rfl
    have hb0 : Below w.heap.size w w1 := ((Below.refl _ _).alloc (Nat.le_refl _) _).trans (hb.mono (by simp))
    have hbt : Blk w1 w.heap.size 23 #[.slice A n c] := (Blk.new w 23 #[.slice A n c]).below hb (by simp)
    have HM := Lib.hid (And.intro hm (And.intro hb0 hbt))
    have HG := Lib.hid hg
    clear hm hb hg hb0 hbt
    have HE := Lib.hid (env_new w1 w.heap.size gm m A c n l HN.out HM.out.2.2 HM.out.1 (HOK.out.2.1.below (HM.out.2.1)) (fun a ha hl => Nat.lt_of_lt_of_le (HOK.out.2.2 a ha hl) HM.out.2.1.size))
    have HB5 : Hid (Below w1.heap.size w1 ((((w1.alloc (.cells #[.map (some gm)] 60)).alloc (.cells #[.int .i64 (-1)] 3)).alloc (.cells #[.int .i64 (-1)] 3)).alloc (.cells #[Spot.walk ⟨w.heap.size, w1.heap.size + 1, w1.heap.size, w1.heap.size + 1 + 1, w1.heap.size + 1 + 1 + 1, gm, m⟩] 62))) := ((((Below.refl _ _).alloc (Nat.le_refl _) _).alloc (by simp) _).alloc (by simp; omega) _).alloc (by simp; omega) _
    have HWK := Lib.hid (fun W hE => walk_any ⟨w.heap.size, w1.heap.size + 1, w1.heap.size, w1.heap.size + 1 + 1, w1.heap.size + 1 + 1 + 1, gm, m⟩ A c l (by rw [← HN.out]; omega) HOK.out.1 l.length 0 1 37 #[] (fun _ => true) (-1) W (by omega) (by omega) (by omega) hE (may_true W))
    rw [← HR.out] at HWK
    dsimp only [Spot.walk, Spot.args] at HE HB5 HWK
    go_wp2_with fail
    have HCALL := Lib.hid (HWK.out _ HE.out)
    generalize (((w1.alloc (.cells #[.map (some gm)] 60)).alloc (.cells #[.int .i64 (-1)] 3)).alloc (.cells #[.int .i64 (-1)] 3)).alloc (.cells #[.func (.func 35) #[] #[.pointer (some ⟨w.heap.size, 0, none⟩), .pointer (some ⟨w1.heap.size + 1, 0, none⟩), .pointer (some ⟨w1.heap.size, 0, none⟩), .pointer (some ⟨w1.heap.size + 1 + 1, 0, none⟩), .pointer (some ⟨w1.heap.size + 1 + 1 + 1, 0, none⟩)]] 62) = w5 at *
    clear HE HWK
    refine HCALL.out.mono ?_
    rintro e w6 ⟨rfl, he6, hc6⟩
    have hb6 : Below w.heap.size w w6 := by
      have h := (HM.out.2.1.trans (HB5.out.mono HM.out.2.1.size))
      refine Chg.below h hc6 (Nat.le_trans HM.out.2.1.size HB5.out.size) (fun b hb => ?_)
      have := HM.out.2.1.size
      rcases hb with hb | hb <;> (dsimp only at hb; omega)
    have k1 : w6.cell? ⟨w1.heap.size + 1, 0, none⟩ = some (.int .i64 R.2.1) := he6.wr.cell 0
    have k2 : w6.cell? ⟨w1.heap.size + 1 + 1, 0, none⟩ = some (.int .i64 R.2.2) := he6.dp.cell 0
    have k3 : w6.cell? ⟨w.heap.size, 0, none⟩ = some (.slice A n c) := by rw [HN.out]; exact he6.t.cell 0
    have HB6 := Lib.hid hb6
    clear he6 hc6 hb6 HCALL HB5 HM HG
    obtain ⟨nx, wr, dp⟩ := R
    dsimp only at k1 k2 HC
    by_cases h1 : 0 ≤ wr
    · have d1 : decide (0 ≤ wr) = true := decide_eq_true h1
      have HC2 := Lib.hid (show r = (wr, 3) from by rw [HC.out, if_neg hlong, if_pos h1])
      go_wp2_with fail
      go_ret2
      rw [HC2.out]
      exact ⟨rfl, HB6.out⟩
    · have d1 : decide (0 ≤ wr) = false := decide_eq_false h1
      by_cases h2 : nx < n
      · have d2 : decide ((nx : Int) < (n : Int)) = true := decide_eq_true (by omega)
        have HC2 := Lib.hid (show r = (((nx : Nat) : Int), 3) from by rw [HC.out, if_neg hlong, if_neg h1, if_pos h2])
        go_wp2_with fail
        go_ret2
        rw [HC2.out]
        exact ⟨rfl, HB6.out⟩
      · have d2 : decide ((nx : Int) < (n : Int)) = false := decide_eq_false (by omega)
        by_cases h3 : 0 ≤ dp
        · have d3 : decide (0 ≤ dp) = true := decide_eq_true h3
          have HC2 := Lib.hid (show r = (dp, 2) from by rw [HC.out, if_neg hlong, if_neg h1, if_neg h2, if_pos h3])
          go_wp2_with fail
          go_ret2
          rw [HC2.out]
          exact ⟨rfl, HB6.out⟩
        · have d3 : decide (0 ≤ dp) = false := decide_eq_false h3
          have HC2 := Lib.hid (show r = (0, 0) from by rw [HC.out, if_neg hlong, if_neg h1, if_neg h2, if_neg h3])
          go_wp2_with fail
          go_ret2
          rw [HC2.out]
          exact ⟨rfl, HB6.out⟩
end Go.Proofs.YtbcadlocldplfaaDoor.T8
namespace Go.Proofs.YtbcadlocldplfaaDoor.T8
inductive Tr where
  | node (x : Tw) (ks : List Tr)
mutual
def Tr.flat : Tr → List Tw
  | .node x ks => x :: flats ks
def flats : List Tr → List Tw
  | [] => []
  | k :: ks => k.flat ++ flats ks
end
mutual
def Tr.depth : Tr → Nat
  | .node _ ks => depths ks + 1
def depths : List Tr → Nat
  | [] => 0
  | k :: ks => max k.depth (depths ks)
end
mutual
def Tr.ok (may : Nat → Bool) : Tr → Prop
  | .node x ks => fineB x may = true ∧ x.kids = (ks.length : Nat) ∧ oks x 0 ks
def oks (x : Tw) (i : Nat) : List Tr → Prop
  | [] => True
  | k :: ks => k.ok (partOf x i) ∧ oks x (i + 1) ks
end
theorem flat_pos (t : Tr) : 0 < t.flat.length := by
  cases t; simp [Tr.flat]
theorem drop_head {α : Type} {l : List α} {at_ : Nat} {x : α} {r : List α} (h : l.drop at_ = x :: r) : l[at_]? = some x ∧ l.drop (at_ + 1) = r := by
  constructor
  · have h2 : (l.drop at_)[0]? = some x := by rw [h]; rfl
    rw [List.getElem?_drop] at h2
    exact h2
  · have h2 : (l.drop at_).drop 1 = r := by rw [h]; rfl
    rw [List.drop_drop] at h2
    exact h2
theorem drop_app {α : Type} {l : List α} {at_ : Nat} {a r : List α} (h : l.drop at_ = a ++ r) : l.drop (at_ + a.length) = r := by
  have h2 : (l.drop at_).drop a.length = r := by rw [h]; simp
  rw [List.drop_drop] at h2
  exact h2
section
variable {l : List Tw}
mutual
theorem wk_ok (l : List Tw) : ∀ (t : Tr) (f at_ lv : Nat) (may : Nat → Bool) (dp : Int) (r : List Tw), t.ok may → l.drop at_ = t.flat ++ r → l.length ≤ at_ + f →
    (wk f l at_ lv may dp).1 = at_ + t.flat.length ∧ (wk f l at_ lv may dp).2.1 = -1 ∧ (0 ≤ (wk f l at_ lv may dp).2.2 ↔ 0 ≤ dp ∨ 42 ≤ lv + t.depth)
  | .node x ks, f, at_, lv, may, dp, r, hok, hd, hf => by
    rw [Tr.ok] at hok
    rw [Tr.flat, List.cons_append] at hd
    have h1 := drop_head hd
    have hlt := (List.getElem?_eq_some_iff.1 h1.1).1
    cases f with
    | zero => omega
    | succ f =>
      unfold wk
      rw [h1.1]
      dsimp only
      rw [if_pos hok.1, show x.kids.toNat = ks.length from by rw [hok.2.1]; rfl]
      have h2 := wks_ok l ks f x 0 (at_ + 1) (lv + 1) (if 40 < lv ∧ dp < 0 then (at_ : Int) else dp) r hok.2.2 h1.2 (by omega)
      rw [Tr.flat, Tr.depth, List.length_cons]
      refine ⟨by rw [h2.1]; omega, h2.2.1, ?_⟩
      rw [h2.2.2]
      by_cases hks : ks = []
      · rw [hks, show depths [] = 0 from rfl]
        split <;> simp <;> omega
      · simp only [hks, ne_eq, not_false_eq_true, and_true]
        split <;> omega
theorem wks_ok (l : List Tw) : ∀ (ks : List Tr) (f : Nat) (x : Tw) (i nx lv : Nat) (dp : Int) (r : List Tw), oks x i ks → l.drop nx = flats ks ++ r → l.length ≤ nx + f →
    (wkL (wk f l) x lv ks.length i nx dp).1 = nx + (flats ks).length ∧ (wkL (wk f l) x lv ks.length i nx dp).2.1 = -1 ∧ (0 ≤ (wkL (wk f l) x lv ks.length i nx dp).2.2 ↔ 0 ≤ dp ∨ 42 ≤ lv + depths ks ∧ ks ≠ [])
  | [], f, x, i, nx, lv, dp, r, _, _, _ => by simp [wkL, flats]
  | k :: ks, f, x, i, nx, lv, dp, r, hok, hd, hf => by
    rw [oks] at hok
    rw [flats, List.append_assoc] at hd
    have h1 := wk_ok l k f nx lv (partOf x i) dp (flats ks ++ r) hok.1 hd hf
    rw [List.length_cons, wkL, h1.2.1, if_neg (by omega), h1.1]
    have h2 := wks_ok l ks f x (i + 1) (nx + k.flat.length) lv (wk f l nx lv (partOf x i) dp).2.2 r hok.2 (drop_app hd) (by omega)
    refine ⟨by rw [h2.1, flats, List.length_append]; omega, h2.2.1, ?_⟩
    rw [h2.2.2, h1.2.2, depths]
    have hk : 0 < k.depth := by cases k; simp [Tr.depth]
    have : ks = [] → depths ks = 0 := fun h => by rw [h]; rfl
    by_cases hks : ks = []
    · rw [this hks, hks]; simp
      try omega
    · simp [hks]; omega
end
end
theorem wkL_back {l : List Tw} {f : Nat} (ih : ∀ (at_ lv : Nat) (may : Nat → Bool) (dp : Int), at_ ≤ l.length → (wk f l at_ lv may dp).2.1 < 0 → ∃ t : Tr, t.ok may ∧ l.drop at_ = t.flat ++ l.drop (wk f l at_ lv may dp).1) (x : Tw) (lv : Nat) :
    ∀ (k i nx : Nat) (dp : Int), nx ≤ l.length → (wkL (wk f l) x lv k i nx dp).2.1 < 0 → ∃ ks : List Tr, ks.length = k ∧ oks x i ks ∧ l.drop nx = flats ks ++ l.drop (wkL (wk f l) x lv k i nx dp).1
  | 0, i, nx, dp, _, _ => ⟨[], rfl, by simp [oks], by simp [flats, wkL]⟩
  | k + 1, i, nx, dp, hnx, h => by
    unfold wkL at h ⊢
    split at h
    · rename_i h0; omega
    · rename_i h0
      rw [if_neg h0]
      obtain ⟨t, ht1, ht2⟩ := ih nx lv (partOf x i) dp hnx (by omega)
      have hle := wk_le f l nx lv (partOf x i) dp hnx
      obtain ⟨ks, hk1, hk2, hk3⟩ := wkL_back ih x lv k (i + 1) _ _ hle.2 h
      exact ⟨t :: ks, by simp [hk1], by rw [oks]; exact ⟨ht1, hk2⟩, by rw [flats, List.append_assoc, ← hk3]; exact ht2⟩
theorem wk_back (l : List Tw) : ∀ (f at_ lv : Nat) (may : Nat → Bool) (dp : Int), at_ ≤ l.length → (wk f l at_ lv may dp).2.1 < 0 → ∃ t : Tr, t.ok may ∧ l.drop at_ = t.flat ++ l.drop (wk f l at_ lv may dp).1
  | 0, at_, lv, may, dp, _, h => by unfold wk at h; dsimp only at h; omega
  | f + 1, at_, lv, may, dp, hat, h => by
    unfold wk at h ⊢
    cases hx : l[at_]? with
    | none => rw [hx] at h; dsimp only at h; omega
    | some x =>
      rw [hx] at h
      dsimp only at h ⊢
      have hlt := (List.getElem?_eq_some_iff.1 hx).1
      cases hb : fineB x may
      · rw [hb] at h; simp at h; omega
      · rw [hb] at h
        rw [if_pos rfl] at h ⊢
        obtain ⟨ks, hk1, hk2, hk3⟩ := wkL_back (fun at_ lv may dp h1 h2 => wk_back l f at_ lv may dp h1 h2) x (lv + 1) x.kids.toNat 0 (at_ + 1) (if 40 < lv ∧ dp < 0 then (at_ : Int) else dp) (by omega) h
        refine ⟨.node x ks, ?_, ?_⟩
        · rw [Tr.ok]
          refine ⟨hb, ?_, hk2⟩
          have : 0 ≤ x.kids := by
            unfold fineB at hb
            split at hb
            · cases hb
            · simp at hb; omega
          omega
        · rw [Tr.flat, List.cons_append, ← hk3, List.drop_eq_getElem_cons hlt, (List.getElem?_eq_some_iff.1 hx).2]
def Right (l : List Tw) (t : Tr) : Prop := t.ok (fun _ => true) ∧ t.flat = l
theorem chk_right {l : List Tw} {t : Tr} (h : Right l t) (hl : l.length ≤ 2048) : (chk l).2 = if t.depth ≤ 40 then 0 else 2 := by
  have h1 := wk_ok l t l.length 0 1 (fun _ => true) (-1) [] h.1 (by rw [h.2]; simp) (by omega)
  rw [h.2] at h1
  unfold chk
  rw [if_neg (by omega), if_neg (by rw [h1.2.1]; omega), if_neg (by rw [h1.1]; omega)]
  by_cases hd : t.depth ≤ 40
  · rw [if_neg (by rw [h1.2.2]; omega), if_pos hd]
  · rw [if_pos (by rw [h1.2.2]; omega), if_neg hd]
theorem chk_wrong {l : List Tw} (h : ¬ ∃ t, Right l t) (hl : l.length ≤ 2048) : (chk l).2 = 3 := by
  unfold chk
  rw [if_neg (by omega)]
  by_cases h1 : 0 ≤ (wk l.length l 0 1 (fun _ => true) (-1)).2.1
  · rw [if_pos h1]
  · rw [if_neg h1]
    by_cases h2 : (wk l.length l 0 1 (fun _ => true) (-1)).1 < l.length
    · rw [if_pos h2]
    · exfalso
      obtain ⟨t, ht1, ht2⟩ := wk_back l l.length 0 1 (fun _ => true) (-1) (Nat.zero_le _) (by omega)
      refine h ⟨t, ht1, ?_⟩
      have e : l.drop (wk l.length l 0 1 (fun _ => true) (-1)).1 = [] := List.drop_of_length_le (by omega)
      rw [e, List.append_nil, List.drop_zero] at ht2
      exact ht2.symm
theorem chk_long {l : List Tw} (hl : 2048 < l.length) : (chk l).2 = 2 := by
  unfold chk
  rw [if_pos hl]
theorem chk_fine {l : List Tw} : (chk l).2 = 0 ↔ l.length ≤ 2048 ∧ ∃ t, Right l t ∧ t.depth ≤ 40 := by
  by_cases hl : 2048 < l.length
  · rw [chk_long hl]; constructor
    · intro h; cases h
    · intro h; omega
  · by_cases h : ∃ t, Right l t
    · obtain ⟨t, ht⟩ := h
      rw [chk_right ht (by omega)]
      constructor
      · intro h
        split at h
        · exact ⟨by omega, t, ht, by assumption⟩
        · cases h
      · rintro ⟨_, t', ht', hd⟩
        have e := chk_right ht' (by omega)
        rw [chk_right ht (by omega), if_pos hd] at e
        exact e
    · rw [chk_wrong h (by omega)]; constructor
      · intro h; cases h
      · rintro ⟨_, t, ht, _⟩; exact absurd ⟨t, ht⟩ h
end Go.Proofs.YtbcadlocldplfaaDoor.T8
namespace Go.Proofs.YtbcadlocldplfaaDoor.T8
set_option maxRecDepth 100000
open Go.RowKit
theorem flats_flatten : ∀ ks : List Tr, flats ks = (ks.map Tr.flat).flatten
  | [] => rfl
  | k :: ks => by rw [flats, List.map_cons, List.flatten_cons, flats_flatten ks]
theorem flat_le : ∀ {ks : List Tr} {k : Tr}, k ∈ ks → k.flat.length ≤ (flats ks).length
  | k0 :: ks, k, h => by
    rw [flats, List.length_append]
    rcases List.mem_cons.1 h with rfl | h
    · omega
    · have := flat_le h; omega
theorem flat_mem : ∀ {ks : List Tr} {k : Tr}, k ∈ ks → ∀ x ∈ k.flat, x ∈ flats ks
  | k0 :: ks, k, h, x, hx => by
    rw [flats, List.mem_append]
    rcases List.mem_cons.1 h with rfl | h
    · exact .inl hx
    · exact .inr (flat_mem h x hx)
theorem flats_append : ∀ a b : List Tr, flats (a ++ b) = flats a ++ flats b
  | [], b => by simp [flats]
  | k :: a, b => by rw [List.cons_append, flats, flats, flats_append a b, List.append_assoc]
theorem news_of_blk {w : World} {g : Nat} {t : TypeId} {xs : List Value} (h : w.heap[g]? = some (.cells xs.toArray t (0, 0))) : ∀ j u, xs[j]? = some u → w.cell? ((⟨g, 0, none⟩ : Addr).add j) = some u := by
  intro j u hu
  rw [addr_add, Nat.zero_add, Blk.cell (show Blk w g t xs.toArray from h)]
  simpa using hu
theorem own_cap {w : World} {base : Nat} {e : TypeId} {size n c : Nat} {A : Option Addr} {xs : List Value} (h : w.ownsRow base e size (.slice A n c) n xs) : n ≤ c := by
  rcases h.2 with ⟨h1, h0⟩ | ⟨g, cap, cur, h1, _, _, hc, _⟩
  · injection h1 with h1 h2 h3
    omega
  · injection h1 with h1 h2 h3
    omega
end Go.Proofs.YtbcadlocldplfaaDoor.T8
namespace Go.Proofs.YtbcadlocldplfaaDoor.T8
set_option maxRecDepth 100000
open Go.ChangeShapes Go.WideShapes Go.ChangeAt Go.RowKit Go.Deep
section
variable {H : Type} {enc : TypeId × Value → H} {P : Program} {w : World} {base : Nat} {spare : Nat → Bool} {held : Bool}
theorem open_slice_fields {t e : TypeId} {fs : Array Field} {fuel : Nat} {cs : List Value} {x : DataW H × List MemPlace} (ht : P.underlying t = some (.slice e)) (he : P.underlying e = some (.struct fs))
    (hone : oneCellFields P fs = true) (hC : P.cellsOf e = fs.size) (h : DataW.trod enc P w base spare held fuel t cs = some x) :
    (cs = [.slice none 0 0] ∧ x = (.nil, [])) ∨
    ∃ (a : Addr) (len cap m : Nat) (D : Nat → DataW H) (Pl : Nat → List MemPlace), cs = [.slice (some a) len cap] ∧ base ≤ a.block ∧ len ≤ cap ∧ cap ≤ maxLen ∧ m = (if spare a.block then cap else len) ∧
      x = (.slice ((List.range len).map D) ((List.range (m - len)).map fun j => D (len + j)), MemPlace.row a (m * fs.size) ++ (List.range m).flatMap Pl) ∧
      ∀ i, i < m → ∃ (ys : List (DataW H × List MemPlace)) (n : Nat), D i = .agg (ys.map (·.1)) ∧ Pl i = ys.flatMap (·.2) ∧ ys.length = fs.size ∧
        ∀ (j : Nat) (f : Field), fs[j]? = some f → ∃ (v : Value) (y : DataW H × List MemPlace), w.cell? (a.add (i * fs.size + j)) = some v ∧ ys[j]? = some y ∧ DataW.trod enc P w base spare held n f.type [v] = some y := by
  rcases open_slice ht h with h0 | ⟨a, len, cap, m, n, D, Pl, hcs, hb, hl, hm, hmm, hx, hi⟩
  · exact .inl h0
  · refine .inr ⟨a, len, cap, m, D, Pl, hcs, hb, hl, hm, hmm, by rw [hC] at hx; exact hx, fun i him => ?_⟩
    obtain ⟨cs', hc, ht'⟩ := hi i him
    rw [hC] at hc
    obtain ⟨ys, n', hn', hy, hlen, hyl, hf⟩ := DataW.trod_struct he ht'
    obtain ⟨_, hcl, hat⟩ := World.cells?_some hc
    simp only [Prod.mk.injEq] at hy
    refine ⟨ys, n', hy.1, hy.2, hyl, fun j f hj => ?_⟩
    obtain ⟨ho, hk⟩ := hone_of hone j f hj
    have hjl : j < fs.size := (Array.getElem?_eq_some_iff.1 hj).1
    have hcell := hat j hjl
    have hv : cs'[j]? = some (cs'[j]'(by omega)) := List.getElem?_eq_getElem (by omega)
    have h1 := hf j f hj
    rw [ho, hk] at h1
    have hone' : (cs'.drop j).take 1 = [cs'[j]'(by omega)] := by
      rw [List.drop_eq_getElem_cons (by omega)]
      rfl
    rw [hone'] at h1
    have hys : ys[j]? = some (ys[j]'(by omega)) := List.getElem?_eq_getElem (by omega)
    refine ⟨_, _, ?_, hys, h1.trans hys⟩
    rw [← Go.Deep.add_add, hcell, hv]
end
theorem exists_list {α : Type} {P : Nat → α → Prop} : ∀ n, (∀ r, r < n → ∃ l, P r l) → ∃ ls : List α, ls.length = n ∧ ∀ r l, ls[r]? = some l → P r l
  | 0, _ => ⟨[], rfl, fun r l h => by simp at h⟩
  | n + 1, h => by
    obtain ⟨ls, hl, hp⟩ := exists_list n (fun r hr => h r (by omega))
    obtain ⟨x, hx⟩ := h n (by omega)
    refine ⟨ls ++ [x], by simp [hl], fun r l hr => ?_⟩
    rw [List.getElem?_append] at hr
    split at hr
    · exact hp r l hr
    · have h0 : r - ls.length = 0 := by
        rcases Nat.eq_zero_or_pos (r - ls.length) with h | h
        · exact h
        · rw [List.getElem?_eq_none (by simp; omega)] at hr; cases hr
      rw [h0] at hr
      have e1 : x = l := by simpa using hr
      have e2 : r = n := by
        have : ¬ r < ls.length := by assumption
        omega
      rw [← e1, e2]; exact hx
theorem tw_of {H : Type} {enc : TypeId × Value → H} {W : World} {base : Nat} {sp : Nat → Bool} {held : Bool} {v0 v1 v2 v3 : Value} {y0 y1 y2 y3 : DataW H × List MemPlace} {n0 n1 n2 n3 : Nat}
    (t0 : DataW.trod enc Tryd.prog W base sp held n0 5 [v0] = some y0) (t1 : DataW.trod enc Tryd.prog W base sp held n1 3 [v1] = some y1) (t2 : DataW.trod enc Tryd.prog W base sp held n2 2 [v2] = some y2) (t3 : DataW.trod enc Tryd.prog W base sp held n3 9 [v3] = some y3) :
    ∃ x : Tw, v0 = .int .u8 (x.op : Nat) ∧ v1 = .int .i64 x.kids ∧ v2 = .int .i64 x.int ∧ v3 = .string x.text ∧ TwOk x := by
  obtain ⟨n0, e0, _, w0⟩ := DataW.trod_int Tryd.underlying5 t0
  obtain ⟨n1, e1, _, w1⟩ := DataW.trod_int Tryd.underlying3 t1
  obtain ⟨n2, e2, _, w2⟩ := DataW.trod_int Tryd.underlying2 t2
  obtain ⟨s3, e3, _, w3⟩ := DataW.trod_string Tryd.underlying9 t3
  have hb := bounds_u8 w0
  have hb1 := bounds_i64 w1
  have hb2 := bounds_i64 w2
  obtain ⟨k0, rfl⟩ : ∃ k : Nat, n0 = (k : Int) := ⟨n0.toNat, by omega⟩
  injection e0 with e0
  injection e1 with e1
  injection e2 with e2
  injection e3 with e3
  subst e0; subst e1; subst e2; subst e3
  exact ⟨⟨k0, n1, n2, s3⟩, rfl, rfl, rfl, rfl, by dsimp only; omega, by dsimp only; omega, by dsimp only; omega, by dsimp only; omega, by dsimp only; omega, w3⟩
theorem open_twigs {H : Type} {enc : TypeId × Value → H} {W : World} {base base2 : Nat} {sp : Nat → Bool} {held : Bool} {v0 : Value} {d0 : DataW H} {p0 : List MemPlace}
    (hval : Value.okWide Tryd.prog W .any base 23 v0) (h0 : DataW.Trod enc Tryd.prog W base2 sp held 23 v0 d0 p0) :
    ∃ (A : Option Addr) (l : List Tw) (c : Nat), v0 = .slice A l.length c ∧ RdW W A l ∧ (l.length ≤ c ∧ c ≤ 9223372036854775807) ∧ (∀ x ∈ l, TwOk x) ∧ (∀ a, A = some a → l ≠ [] → a.block < W.heap.size) := by
  obtain ⟨a0, len0, cap0, rfl⟩ := okWide_slice Tryd.underlying23 hval
  obtain ⟨fuel, hf⟩ := h0
  rcases open_slice_fields Tryd.underlying23 Tryd.underlying42 (by kernel_rfl) (by kernel_rfl) hf with ⟨hcs, _⟩ | ⟨a, len, cap, m, D, Pl, hcs, _, hl, hm, hmm, _, hrow⟩
  · simp [Value.cells] at hcs
    obtain ⟨rfl, rfl, rfl⟩ := hcs
    exact ⟨none, [], 0, rfl, .inl rfl, by simp, by simp, by simp⟩
  · simp [Value.cells] at hcs
    obtain ⟨rfl, rfl, rfl⟩ := hcs
    have hlm : len0 ≤ m := by rw [hmm]; split <;> omega
    have each : ∀ r, r < len0 → ∃ s : Tw, (W.cell? (a.add (r * 4)) = some (.int .u8 (s.op : Nat)) ∧ W.cell? (a.add (r * 4 + 1)) = some (.int .i64 s.kids) ∧ W.cell? (a.add (r * 4 + 2)) = some (.int .i64 s.int) ∧ W.cell? (a.add (r * 4 + 3)) = some (.string s.text)) ∧ TwOk s := fun r hr => by
      obtain ⟨ys, n, _, _, _, hfl⟩ := hrow r (by omega)
      obtain ⟨v0, y0, hc0, _, ht0⟩ := hfl 0 _ rfl
      obtain ⟨v1, y1, hc1, _, ht1⟩ := hfl 1 _ rfl
      obtain ⟨v2, y2, hc2, _, ht2⟩ := hfl 2 _ rfl
      obtain ⟨v3, y3, hc3, _, ht3⟩ := hfl 3 _ rfl
      obtain ⟨x, e0, e1, e2, e3, hx⟩ := tw_of ht0 ht1 ht2 ht3
      subst e0; subst e1; subst e2; subst e3
      exact ⟨x, ⟨hc0, hc1, hc2, hc3⟩, hx⟩
    obtain ⟨ls, hls, hp⟩ := exists_list len0 each
    refine ⟨some a, ls, cap0, by rw [hls], ?_, by rw [hls]; unfold maxLen at hm; omega, fun s hs => ?_, fun a' ha' hpos => ?_⟩
    · rcases Nat.eq_zero_or_pos len0 with h0 | h0
      · left; exact List.eq_nil_of_length_eq_zero (by omega)
      · right
        obtain ⟨s, ⟨hc0, _, _⟩, _⟩ := each 0 h0
        obtain ⟨b, off, spot⟩ := a
        have hs : spot = none := by
          have := World.cell?_spot hc0
          simpa [Addr.add] using this
        subst hs
        refine ⟨b, off, rfl, ?_, fun k s hk => ?_⟩
        · have := World.block_lt_of_cell? W _ hc0
          simpa [addr_add] using this
        · obtain ⟨⟨h1, h2, h3, h4⟩, _⟩ := hp k s hk
          rw [addr_add] at h1 h2 h3 h4
          exact ⟨h1, h2, h3, h4⟩
    · obtain ⟨k, hk⟩ := List.getElem?_of_mem hs
      exact (hp k s hk).2
    · injection ha' with ha'
      subst ha'
      obtain ⟨s, ⟨hc0, _, _⟩, _⟩ := each 0 (by rw [← hls]; exact List.length_pos_iff.2 hpos)
      have := World.block_lt_of_cell? W _ hc0
      rw [block_of_add] at this
      exact this
end Go.Proofs.YtbcadlocldplfaaDoor.T8
