/- Contract of the checker's walk. And what follows from it. -/
import Derived.Test.YtbcadlocldplfaaDoorQtd
import Derived.Test.YtbcadlocldplfaaDoorQt0
set_option maxHeartbeats 16000000
set_option linter.unusedSimpArgs false
set_option linter.unusedVariables false
namespace Go.Proofs.YtbcadlocldplfaaDoor.T8
open Go.Proofs.Tryd
set_option maxRecDepth 100000
open Go.RowKit Go.Maps
def WkPost (s : Spot) (A : Option Addr) (c : Nat) (l : List Tw) (w : World) (r : Nat × Int × Int) (e : Ending) (w' : World) : Prop :=
 e = .returned (.int .i64 (r.1 : Nat)) ∧ Env w' s A c l r.2.1 r.2.2 ∧ Chg s.own w w'
abbrev Spot.args (s : Spot) (at_ : Nat) (lv : Int) (m : Nat) (caps : Array Value) : Array Value := #[.int .i64 (at_ : Nat), .int .i64 lv, .func (.func m) #[] caps, .pointer (some ⟨s.bt, 0, none⟩), .pointer (some ⟨s.bw, 0, none⟩), .pointer (some ⟨s.bb, 0, none⟩), .pointer (some ⟨s.bd, 0, none⟩), .pointer (some ⟨s.bk, 0, none⟩)]
theorem walk_end (s : Spot) (A : Option Addr) (c : Nat) (l : List Tw) (lv : Int) (m : Nat) (caps : Array Value) (dp : Int) (w : World) (hl : l.length <= 2048) (henv : Env w s A c l (-1) dp) :
 Calls prog 35 (s.args l.length lv m caps) w (WkPost s A c l w (l.length, (l.length : Int), dp)) := by
 obtain ⟨n, hn⟩ := ex l.length
 have HE := zh henv
 have HS := zh (henv.setW (n : Nat))
 have HCH := zh (show Chg s.own w (w.setCell ⟨s.bw, 0, none⟩ (.int .i64 (n : Nat))) from ((Chg.refl (fun b => b = s.bw) w).setCell (p := ⟨s.bw, 0, none⟩) rfl _).mono (fun b hb => .inl hb))
 have k1 : w.cell? ⟨s.bt, 0, none⟩ = some (.slice A n c) := by rw [hn]; exact henv.t.cell 0
 have k2 : w.cell? ⟨s.bw, 0, none⟩ = some (.int .i64 (-1)) := henv.wr.cell 0
 have f2 : w.frozen? ⟨s.bw, 0, none⟩ = false := henv.wr.frozen 0
 rw [<- hn] at hl |-
 have HN := zh hn
 clear henv hn
 obtain ⟨bt, bw, bb, bd, bk, gm, m0⟩ := s
 dsimp only [Spot.args] at k1 k2 f2 HS HCH |-
 go_in
 go_wp2_with fail
 go_ret
 exact ⟨rfl, HS.out, HCH.out⟩
def ptrInt (v : Value) (w : World) : Nat :=
 match v with
 | .pointer (some a) => (match w.cell? a with | some u => (intOf u).toNat | none => 0)
 | _ => 0
theorem ptrInt_of {w : World} {a : Addr} {i : Nat} (h : w.cell? a = some (.int .i64 (i : Nat))) : ptrInt (.pointer (some a)) w = i := by
 unfold ptrInt
 simp [h, intOf]
theorem ptrInt_new (w : World) (i : Nat) : ptrInt (.pointer (some ⟨w.heap.size, 0, none⟩)) (w.alloc (.cells #[.int .i64 ((i : Int) + 1)] 3)) = i + 1 :=
 ptrInt_of (World.cell?_alloc_new w #[.int .i64 ((i : Int) + 1)] 3 0)
structure LoopR (w' : World) (s : Spot) (A : Option Addr) (c : Nat) (l : List Tw) (wr dp : Int) (bx : Nat) (x : Tw) (bf : Nat) (f : Form) (bi i : Nat) (w : World) : Prop where
 env : Env w' s A c l wr dp
 x : Blk w' bx 42 (twCells x)
 f : Blk w' bf 65 (formCells f)
 i : Blk w' bi 3 #[.int .i64 (i : Nat)]
 ni : bi ≠ s.bw ∧ bi ≠ s.bd
 nx : bx ≠ s.bw ∧ bx ≠ s.bd
 nf : bf ≠ s.bw ∧ bf ≠ s.bd
 chg : Chg s.own w w'
theorem LoopR.nextI {w' w5 : World} {s : Spot} {A : Option Addr} {c : Nat} {l : List Tw} {wr dp : Int} {bx : Nat} {x : Tw} {bf : Nat} {f : Form} {bi i : Nat} {w : World} (h : LoopR w' s A c l wr dp bx x bf f bi i w) (k : Chg s.own w' w5) : Blk w5 bi 3 #[.int .i64 (i : Nat)] :=
 h.i.chg k (fun e => e.elim h.ni.1 h.ni.2)
theorem LoopR.next {w' w5 : World} {s : Spot} {A : Option Addr} {c : Nat} {l : List Tw} {wr dp wr2 dp2 : Int} {bx : Nat} {x : Tw} {bf : Nat} {f : Form} {bi i : Nat} {w : World} (h : LoopR w' s A c l wr dp bx x bf f bi i w) (he : Env w5 s A c l wr2 dp2) (k : Chg s.own w' w5) : LoopR w5 s A c l wr2 dp2 bx x bf f bi i w :=
 ⟨he, h.x.chg k (fun e => e.elim h.nx.1 h.nx.2), h.f.chg k (fun e => e.elim h.nf.1 h.nf.2), h.nextI k, h.ni, h.nx, h.nf, h.chg.trans k⟩
theorem LoopR.fresh {w5 : World} {s : Spot} {A : Option Addr} {c : Nat} {l : List Tw} {wr dp : Int} {bx : Nat} {x : Tw} {bf : Nat} {f : Form} {bi i : Nat} {w : World} (h : LoopR w5 s A c l wr dp bx x bf f bi i w) (j : Nat) (w6 : World) (e : w6 = w5.alloc (.cells #[.int .i64 (j : Nat)] 3)) : LoopR w6 s A c l wr dp bx x bf f w5.heap.size j w := by
 subst e
 have h1 := h.env.wr.lt
 have h2 := h.env.dp.lt
 exact ⟨h.env.below ((Below.refl _ _).alloc (nlr _) _), h.x.alloc _, h.f.alloc _, Blk.new _ _ _, ⟨by omega, by omega⟩, h.nx, h.nf, h.chg.alloc _⟩
set_option maxRecDepth 100000 in
theorem walk_step (s : Spot) (A : Option Addr) (c : Nat) (l : List Tw) (g : Nat -> Nat -> (Nat -> Bool) -> Int -> Nat × Int × Int) (at_ lv m : Nat) (caps : Array Value) (P : Nat -> Bool) (dp : Int) (w : World) (x : Tw) (hx : l[at_]? = some x)
 (hl : l.length <= 2048) (hok : TwOk x) (hlv : lv <= 2049) (henv : Env w s A c l (-1) dp) (hmay : MayOk w m caps P)
 (hg : ∀ nx P dp, at_ < nx -> nx <= l.length -> nx <= (g nx (lv + 1) P dp).1 ∧ (g nx (lv + 1) P dp).1 <= l.length ∧ ((g nx (lv + 1) P dp).2.1 = -1 ∨ 0 <= (g nx (lv + 1) P dp).2.1))
 (ih : ∀ (nx m : Nat) (caps : Array Value) (P : Nat -> Bool) (dp : Int) (w : World), at_ < nx -> nx <= l.length -> Env w s A c l (-1) dp -> MayOk w m caps P -> Calls prog 35 (s.args nx ((lv : Int) + 1) m caps) w (WkPost s A c l w (g nx (lv + 1) P dp))) :
 Calls prog 35 (s.args at_ lv m caps) w (WkPost s A c l w (if fineB x P then wkL g x (lv + 1) x.kids.toNat 0 (at_ + 1) (if 40 < lv ∧ dp < 0 then (at_ : Int) else dp) else (at_, (at_ : Int), dp))) := by
 obtain ⟨n, hn⟩ := ex l.length
 have hlt : at_ < n := by rw [hn]; exact (List.getElem?_eq_some_iff.1 hx).1
 obtain ⟨b, off, rfl, hbl, hat⟩ : ∃ b off, A = some ⟨b, off, none⟩ ∧ b < w.heap.size ∧ ∀ k x, l[k]? = some x -> TwAt w b (off + k * 4) x := henv.rd.resolve_left (fun h => by rw [h] at hx; cases hx)
 obtain ⟨c0, c1, c2, c3⟩ := hat at_ x hx
 obtain ⟨op, kids, int, text⟩ := x
 dsimp only at c0 c1 c2 c3 |-
 obtain ⟨o1, o2, o3, o4, o5, o6⟩ := hok
 dsimp only at o1 o2 o3 o4 o5 o6
 have k1 : w.cell? ⟨s.bt, 0, none⟩ = some (.slice (some ⟨b, off, none⟩) n c) := by rw [hn]; exact henv.t.cell 0
 have k2 : w.cell? ⟨s.bw, 0, none⟩ = some (.int .i64 (-1)) := henv.wr.cell 0
 have f2 : w.frozen? ⟨s.bw, 0, none⟩ = false := henv.wr.frozen 0
 have k3 : w.cell? ⟨s.bb, 0, none⟩ = some (.map (some s.gm)) := henv.tab.cell 0
 have k4 : w.cell? ⟨s.bd, 0, none⟩ = some (.int .i64 dp) := henv.dp.cell 0
 have f4 : w.frozen? ⟨s.bd, 0, none⟩ = false := henv.dp.frozen 0
 have k5 : w.cell? ⟨s.bk, 0, none⟩ = some s.walk := henv.wk.cell 0
 have l1 : s.bt < w.heap.size := henv.t.lt
 have l2 : s.bw < w.heap.size := henv.wr.lt
 have l3 : s.bb < w.heap.size := henv.tab.lt
 have l4 : s.bd < w.heap.size := henv.dp.lt
 have l5 : s.bk < w.heap.size := henv.wk.lt
 have HE := zh henv
 have HMY := zh hmay
 have hmcf := hmay.cf
 have HIH := zh ih
 have HG := zh hg
 rw [<- hn] at hl
 have HN := zh hn
 have HX := zh hx
 have a0 : (0 : Int) <= (at_ : Int) := by omega
 have a1 : (at_ : Int) < (n : Int) := by omega
 have HS := zh (fun W (h : Env W s (some ⟨b, off, none⟩) c l (-1) dp) => h.setW (at_ : Nat))
 obtain ⟨R, hR⟩ := ex ((if fineB ⟨op, kids, int, text⟩ P then wkL g ⟨op, kids, int, text⟩ (lv + 1) kids.toNat 0 (at_ + 1) (if 40 < lv ∧ dp < 0 then (at_ : Int) else dp) else (at_, (at_ : Int), dp)))
 rw [<- hR]
 have HBAD := zh (show fineB ⟨op, kids, int, text⟩ P = false -> R = (at_, (at_ : Int), dp) from fun h => by rw [hR, h]; rfl)
 have HGD := zh (show fineB ⟨op, kids, int, text⟩ P = true -> R = wkL g ⟨op, kids, int, text⟩ (lv + 1) kids.toNat 0 (at_ + 1) (if 40 < lv ∧ dp < 0 then (at_ : Int) else dp) from fun h => by rw [hR, if_pos h])
 clear henv hmay ih hg hn hx hat hbl hR
 obtain ⟨bt, bw, bb, bd, bk, gm, m0⟩ := s
 dsimp only [Spot.args] at k1 k2 f2 k3 k4 f4 k5 l1 l2 l3 l4 l5 HIH HE HS |-
 cases hf : formOf op with
 | none =>
  have HF := zh hf
  have HRB := zh (HBAD.out (show fineB ⟨op, kids, int, text⟩ P = false from by unfold fineB; dsimp only; rw [hf]))
  clear hf
  go_in
  go_wp2_with (at_lookup; refine wpList_lookup_none _ rfl _ _ rfl gm m0 op formOf rfl rfl o1 (HE.out.map.below ((Below.refl _ _).alloc (nlr _) _)) HF.out ?_; have H1 := zh (ai (HE.out.below ((Below.refl _ _).alloc (nlr _) (.cells #[.int .u8 (op : Nat), .int .i64 kids, .int .i64 int, .string text] 42))) (ai (Blk.new w 42 #[.int .u8 (op : Nat), .int .i64 kids, .int .i64 int, .string text]) ((Below.refl w.heap.size w).alloc (nlr _) (.cells #[.int .u8 (op : Nat), .int .i64 kids, .int .i64 int, .string text] 42)))); generalize w.alloc (.cells #[.int .u8 (op : Nat), .int .i64 kids, .int .i64 int, .string text] 42) = w1 at *; have HB1 := zh H1.out.2.2; obtain ⟨bx, hbx⟩ : ∃ g, g = w.heap.size := ⟨_, rfl⟩; rw [<- hbx] at H1 |-; have HBX := zh hbx; clear hbx; have y2 : w1.cell? ⟨bw, 0, none⟩ = some (.int .i64 (-1)) := H1.out.1.wr.cell 0; have y3 : w1.frozen? ⟨bw, 0, none⟩ = false := H1.out.1.wr.frozen 0; have y4 : bw < w1.heap.size := H1.out.1.wr.lt; have y5 : bx < w1.heap.size := H1.out.2.1.lt; have x0 : w1.cell? ⟨bx, 0, none⟩ = some (.int .u8 (op : Nat)) := H1.out.2.1.cell 0; have x3 : w1.cell? ⟨bx, 3, none⟩ = some (.string text) := H1.out.2.1.cell 3; clear c0 c1 c2 c3 k1 k2 f2 k3 k4 f4 k5 l1 l2 l3 l4 l5)
  go_ret
  rw [HRB.out]
  exact ⟨rfl, (H1.out.1.setW (at_ : Nat)).below ((Below.refl _ _).alloc (nlr _) _), ((Chg.of_below HB1.out).setCell (.inl rfl) _).alloc _⟩
 | some f =>
  have hcf := (enter_form hf).1
  have HF := zh hf
  have HT := zh (fun W => text_any hf text W (by unfold maxLen at o6; omega))
  have HMOST := zh (forms_ok hf).2.2.2
  have HFB := zh (show fineB ⟨op, kids, int, text⟩ P = (P op && (txtB f.txt text && (decide ((f.least : Int) <= kids) && (decide (kids <= (f.most : Int)) && (decide (op = 23 ∨ int = 0) && decide (0 <= int)))))) from by unfold fineB; dsimp only; rw [hf])
  clear hf
  obtain ⟨ft, fl, fm, fp⟩ := f
  dsimp only at hcf HT HFB HMOST
  go_in
  go_wp2_with (at_lookup; refine wpList_lookup_some _ rfl _ _ rfl gm m0 op formOf ⟨ft, fl, fm, fp⟩ rfl rfl o1 (HE.out.map.below ((Below.refl _ _).alloc (nlr _) _)) HF.out ?_; have H1 := zh (ai (HE.out.below ((Below.refl _ _).alloc (nlr _) (.cells #[.int .u8 (op : Nat), .int .i64 kids, .int .i64 int, .string text] 42))) (ai (Blk.new w 42 #[.int .u8 (op : Nat), .int .i64 kids, .int .i64 int, .string text]) ((Below.refl w.heap.size w).alloc (nlr _) (.cells #[.int .u8 (op : Nat), .int .i64 kids, .int .i64 int, .string text] 42)))); generalize w.alloc (.cells #[.int .u8 (op : Nat), .int .i64 kids, .int .i64 int, .string text] 42) = w1 at *; have HB1 := zh H1.out.2.2; obtain ⟨bx, hbx⟩ : ∃ g, g = w.heap.size := ⟨_, rfl⟩; rw [<- hbx] at H1 |-; have HBX := zh hbx; clear hbx; have y2 : w1.cell? ⟨bw, 0, none⟩ = some (.int .i64 (-1)) := H1.out.1.wr.cell 0; have y3 : w1.frozen? ⟨bw, 0, none⟩ = false := H1.out.1.wr.frozen 0; have y4 : bw < w1.heap.size := H1.out.1.wr.lt; have y5 : bx < w1.heap.size := H1.out.2.1.lt; have x0 : w1.cell? ⟨bx, 0, none⟩ = some (.int .u8 (op : Nat)) := H1.out.2.1.cell 0; have x3 : w1.cell? ⟨bx, 3, none⟩ = some (.string text) := H1.out.2.1.cell 3; clear c0 c1 c2 c3 k1 k2 f2 k3 k4 f4 k5 l1 l2 l3 l4 l5)
  have H2 : Hid (Env (w1.alloc (.cells #[fv ft, .int .i64 (fl : Nat), .int .i64 (fm : Nat), fv fp] 65)) ⟨bt, bw, bb, bd, bk, gm, m0⟩ (some ⟨b, off, none⟩) c l (-1) dp ∧ Blk (w1.alloc (.cells #[fv ft, .int .i64 (fl : Nat), .int .i64 (fm : Nat), fv fp] 65)) bx 42 #[.int .u8 (op : Nat), .int .i64 kids, .int .i64 int, .string text] ∧ Blk (w1.alloc (.cells #[fv ft, .int .i64 (fl : Nat), .int .i64 (fm : Nat), fv fp] 65)) w1.heap.size 65 #[fv ft, .int .i64 (fl : Nat), .int .i64 (fm : Nat), fv fp] ∧ Below w.heap.size w (w1.alloc (.cells #[fv ft, .int .i64 (fl : Nat), .int .i64 (fm : Nat), fv fp] 65))) := by
   exact ⟨H1.out.1.below ((Below.refl _ _).alloc (nlr _) _), H1.out.2.1.alloc _, Blk.new _ _ _, HB1.out.alloc HB1.out.size _⟩
  have HND : Hid (bx ≠ bd ∧ w1.heap.size ≠ bd) := by
   have h1 := HE.out.dp.lt
   have h2 := HB1.out.size
   have h3 := HBX.out
   dsimp only at h1
   exact ⟨by omega, by omega⟩
  have HND2 : Hid (bx ≠ bw ∧ w1.heap.size ≠ bw) := by
   have h1 := HE.out.wr.lt
   have h2 := HB1.out.size
   have h3 := HBX.out
   dsimp only at h1
   exact ⟨by omega, by omega⟩
  have HNF : Hid (w.heap.size <= w1.heap.size) := HB1.out.size
  clear y2 y3 y4 y5 x0 x3
  generalize w1.alloc (.cells #[fv ft, .int .i64 (fl : Nat), .int .i64 (fm : Nat), fv fp] 65) = w2 at *
  obtain ⟨bf, hbf⟩ : ∃ g, g = w1.heap.size := ⟨_, rfl⟩
  rw [<- hbf] at H2 HND HND2 HNF |-
  clear hbf H1 HB1
  have z0 : w2.cell? ⟨bx, 0, none⟩ = some (.int .u8 (op : Nat)) := H2.out.2.1.cell 0
  have z1 : w2.cell? ⟨bx, 1, none⟩ = some (.int .i64 kids) := H2.out.2.1.cell 1
  have z2 : w2.cell? ⟨bx, 2, none⟩ = some (.int .i64 int) := H2.out.2.1.cell 2
  have z3 : w2.cell? ⟨bx, 3, none⟩ = some (.string text) := H2.out.2.1.cell 3
  have q0 : w2.cell? ⟨bf, 0, none⟩ = some (fv ft) := H2.out.2.2.1.cell 0
  have q1 : w2.cell? ⟨bf, 1, none⟩ = some (.int .i64 (fl : Nat)) := H2.out.2.2.1.cell 1
  have q2 : w2.cell? ⟨bf, 2, none⟩ = some (.int .i64 (fm : Nat)) := H2.out.2.2.1.cell 2
  have v2 : w2.cell? ⟨bw, 0, none⟩ = some (.int .i64 (-1)) := H2.out.1.wr.cell 0
  have v3 : w2.frozen? ⟨bw, 0, none⟩ = false := H2.out.1.wr.frozen 0
  have v4 : w2.cell? ⟨bd, 0, none⟩ = some (.int .i64 dp) := H2.out.1.dp.cell 0
  have v5 : w2.frozen? ⟨bd, 0, none⟩ = false := H2.out.1.dp.frozen 0
  refine (HMY.out.ok op w2 o1 H2.out.2.2.2).mono ?_
  rintro e w3 ⟨rfl, hw3⟩
  rw [hw3]
  clear hw3 w3
  cases hP : P op
  . have HRB := zh (HBAD.out (by rw [HFB.out]; rw [hP]; rfl))
    go_wp2_with fail
    go_ret
    rw [HRB.out]
    exact ⟨rfl, H2.out.1.setW (at_ : Nat), (Chg.of_below H2.out.2.2.2).setCell (.inl rfl) _⟩
  . go_wp2_with fail
    refine (HT.out w2).mono ?_
    rintro e w3 ⟨rfl, hw3⟩
    rw [hw3]
    clear hw3 w3
    cases htx : txtB ft text
    . have HRB := zh (HBAD.out (by rw [HFB.out]; rw [htx]; simp))
      go_wp2_with fail
      go_ret
      rw [HRB.out]
      exact ⟨rfl, H2.out.1.setW (at_ : Nat), (Chg.of_below H2.out.2.2.2).setCell (.inl rfl) _⟩
    . have HFB2 : Hid (fineB ⟨op, kids, int, text⟩ P = (decide ((fl : Int) <= kids) && (decide (kids <= (fm : Int)) && (decide (op = 23 ∨ int = 0) && decide (0 <= int))))) := by rw [HFB.out, hP, htx]; rfl
      clear hP htx HFB
      have HFB := HFB2
      clear HFB2
      by_cases t1 : kids < (fl : Int)
      . have d1 : decide (kids < (fl : Int)) = true := dqt t1
        have HRB := zh (HBAD.out (by rw [HFB.out]; rw [dqf (show ¬ (fl : Int) <= kids from by omega)]; rfl))
        go_wp2_with fail
        go_ret
        rw [HRB.out]
        exact ⟨rfl, H2.out.1.setW (at_ : Nat), (Chg.of_below H2.out.2.2.2).setCell (.inl rfl) _⟩
      . have d1 : decide (kids < (fl : Int)) = false := dqf t1
        by_cases t2 : (fm : Int) < kids
        . have d2 : decide ((fm : Int) < kids) = true := dqt t2
          have HRB := zh (HBAD.out (by rw [HFB.out]; rw [dqf (show ¬ kids <= (fm : Int) from by omega)]; simp))
          go_wp2_with fail
          go_ret
          rw [HRB.out]
          exact ⟨rfl, H2.out.1.setW (at_ : Nat), (Chg.of_below H2.out.2.2.2).setCell (.inl rfl) _⟩
        . have d2 : decide ((fm : Int) < kids) = false := dqf t2
          have d5 : ∀ b, (b = true ↔ (op = 23 ∨ int = 0)) -> True := fun _ _ => trivial
          clear d5
          by_cases t3 : op = 23 ∨ int = 0
          . have hbb : (((op : Int) != 23) && (int != 0)) = false := by
             rcases t3 with h | h
             . rw [h]; rfl
             . rw [h]; simp
            by_cases t4 : int < 0
            . have d4 : decide (int < 0) = true := dqt t4
              have t5 : op = 23 := by omega
              have e5 : ((op : Int) != 23) = false := by rw [t5]; rfl
              have HRB := zh (HBAD.out (by rw [HFB.out, dqf (show ¬ 0 <= int from by omega)]; simp))
              clear hbb t3 t5
              go_wp2_with fail
              go_ret
              rw [HRB.out]
              exact ⟨rfl, H2.out.1.setW (at_ : Nat), (Chg.of_below H2.out.2.2.2).setCell (.inl rfl) _⟩
            . have d4 : decide (int < 0) = false := dqf t4
              have HFT := zh (show fineB ⟨op, kids, int, text⟩ P = true from by rw [HFB.out, dqt (show (fl : Int) <= kids from by omega), dqt (show kids <= (fm : Int) from by omega), dqt t3, dqt (show 0 <= int from by omega)]; rfl)
              obtain ⟨K, hK⟩ : ∃ K : Nat, K = kids.toNat := ⟨_, rfl⟩
              have HK : Hid (kids = (K : Nat) ∧ K <= 2048) := by
               have := HMOST.out
               exact ⟨by omega, by omega⟩
              have HGOOD := zh (HGD.out HFT.out)
              rw [<- hK] at HGOOD
              clear HFB HFT HBAD HGD hK
              have e3 : ((op : Int) != 23) = true ∧ (int != 0) = false ∨ ((op : Int) != 23) = false := by
               by_cases h23 : op = 23
               . exact .inr (by rw [h23]; rfl)
               . exact .inl ⟨by rw [bne_iff_ne]; omega, by rw [show int = 0 by omega]; rfl⟩
              clear hbb t3
              have e4 : ∃ u1 u2 : Bool, ((op : Int) != 23) = u1 ∧ (int != 0) = u2 ∧ (u1 && u2) = false := ⟨_, _, rfl, rfl, by rcases e3 with h | h; rw [h.2]; simp; rw [h]; rfl⟩
              clear e4
              rcases e3 with ⟨e3, e5⟩ | e3
              . by_cases h40 : 40 < lv
                . have d6 : decide ((40 : Int) < (lv : Int)) = true := dqt (by omega)
                  by_cases hdp : dp < 0
                  . have d7 : decide (dp < 0) = true := dqt hdp
                    go_wp2_with fail
                    have H4 : Hid (Env ((w2.setCell ⟨bd, 0, none⟩ (.int .i64 (at_ : Nat))).alloc (.cells #[.int .i64 0] 3)) ⟨bt, bw, bb, bd, bk, gm, m0⟩ (some ⟨b, off, none⟩) c l (-1) ((at_ : Nat)) ∧ Blk ((w2.setCell ⟨bd, 0, none⟩ (.int .i64 (at_ : Nat))).alloc (.cells #[.int .i64 0] 3)) bx 42 #[.int .u8 (op : Nat), .int .i64 kids, .int .i64 int, .string text] ∧ Blk ((w2.setCell ⟨bd, 0, none⟩ (.int .i64 (at_ : Nat))).alloc (.cells #[.int .i64 0] 3)) bf 65 #[fv ft, .int .i64 (fl : Nat), .int .i64 (fm : Nat), fv fp] ∧ Blk ((w2.setCell ⟨bd, 0, none⟩ (.int .i64 (at_ : Nat))).alloc (.cells #[.int .i64 0] 3)) (w2.setCell ⟨bd, 0, none⟩ (.int .i64 (at_ : Nat))).heap.size 3 #[.int .i64 0] ∧ Chg (fun b => b = bw ∨ b = bd) w ((w2.setCell ⟨bd, 0, none⟩ (.int .i64 (at_ : Nat))).alloc (.cells #[.int .i64 0] 3)) ∧ w.heap.size <= (w2.setCell ⟨bd, 0, none⟩ (.int .i64 (at_ : Nat))).heap.size) := by
                     refine ⟨(H2.out.1.setD (at_ : Nat)).below ((Below.refl _ _).alloc (nlr _) _), (Blk.far H2.out.2.1 HND.out.1 _).alloc _, (Blk.far H2.out.2.2.1 HND.out.2 _).alloc _, Blk.new _ _ _, ((Chg.of_below H2.out.2.2.2).setCell (.inr rfl) _).alloc _, ?_⟩
                     have := H2.out.2.2.2.size
                     simpa [World.setCell] using this
                    have hsz : (w2.setCell ⟨bd, 0, none⟩ (.int .i64 (at_ : Nat))).heap.size = w2.heap.size := by simp [World.setCell]
                    rw [hsz] at H4
                    clear hsz
                    have HBI : Hid (w2.heap.size ≠ bw ∧ w2.heap.size ≠ bd) := by
                     have h1 := H2.out.1.wr.lt
                     have h2 := H2.out.1.dp.lt
                     dsimp only at h1 h2
                     exact ⟨by omega, by omega⟩
                    generalize (w2.setCell ⟨bd, 0, none⟩ (.int .i64 (at_ : Nat))).alloc (.cells #[.int .i64 0] 3) = w4 at *
                    generalize w2.heap.size = bi0 at *
                    have HRG : Hid (R = wkL g ⟨op, kids, int, text⟩ (lv + 1) K 0 (at_ + 1) ((at_ : Nat))) := by
                     have h := HGOOD.out
                     rw [if_pos (ai h40 hdp)] at h
                     exact h
                    have hmf : ∀ (fn : Fn) (first cap : Array Value) (w : World), (Instr.makeFunc fn first cap).run prog w = .ok (.func fn first cap) w := fun _ _ _ _ => rfl
                    clear H2 z0 z1 z2 z3 q0 q1 q2 v2 v3 v4 v5 HGOOD
                    go_loopw [15, 16] (fun s15 s16 wr => ∃ (i nx bi : Nat) (wv dv : Int), s15 = .int .i64 nx ∧ s16 = .pointer (some ⟨bi, 0, none⟩) ∧ i <= K ∧ at_ < nx ∧ nx <= n ∧ LoopR wr ⟨bt, bw, bb, bd, bk, gm, m0⟩ (some ⟨b, off, none⟩) c l wv dv bx ⟨op, kids, int, text⟩ bf ⟨ft, fl, fm, fp⟩ bi i w ∧ (wv = -1 ∧ R = wkL g ⟨op, kids, int, text⟩ (lv + 1) (K - i) i nx dv ∨ 0 <= wv ∧ R = (nx, wv, dv))) (fun _ s16 wr => K - ptrInt s16 wr)
                    case atStart => exact ⟨0, at_ + 1, bi0, -1, (at_ : Nat), by go_num, rfl, by omega, by omega, by omega, ⟨H4.out.1, H4.out.2.1, H4.out.2.2.1, H4.out.2.2.2.1, ⟨HBI.out.1, HBI.out.2⟩, ⟨HND2.out.1, HND.out.1⟩, ⟨HND2.out.2, HND.out.2⟩, H4.out.2.2.2.2.1⟩, .inl ⟨rfl, HRG.out⟩⟩
                    case round =>
                     clear H4 HRG HBI
                     obtain ⟨i, nx, bi, wv, dv, rfl, rfl, hi, hn1, hn2, hLR, hR⟩ := hrel
                     have HLR := zh hLR
                     have e0 : wr.cell? ⟨bi, 0, none⟩ = some (.int .i64 (i : Nat)) := hLR.i.cell 0
                     have e1 : wr.cell? ⟨bx, 1, none⟩ = some (.int .i64 kids) := hLR.x.cell 1
                     have e2 : wr.cell? ⟨bw, 0, none⟩ = some (.int .i64 wv) := hLR.env.wr.cell 0
                     have e6 : wr.cell? ⟨bk, 0, none⟩ = some (Spot.walk ⟨bt, bw, bb, bd, bk, gm, m0⟩) := hLR.env.wk.cell 0
                     dsimp only [Spot.walk] at e6
                     have HRR := zh hR
                     have HI0 := zh e0
                     clear hLR
                     by_cases hik : i < K
                     . have hK3 : i < 2048 := by have := HK.out.2; omega
                       have d8 : decide ((i : Int) < kids) = true := dqt (by rw [HK.out.1]; omega)
                       rcases hR with ⟨hwv, hR⟩ | ⟨hwv, hR⟩
                       . subst hwv
                         have HR2 := zh hR
                         obtain ⟨r, hr⟩ := ex (g nx (lv + 1) (partOf ⟨op, kids, int, text⟩ i) dv)
                         have HGN := zh (HG.out nx (partOf ⟨op, kids, int, text⟩ i) dv hn1 (by rw [<- HN.out]; exact hn2))
                         have HCALL := zh (HIH.out nx 36 #[.pointer (some ⟨bf, 0, none⟩), .pointer (some ⟨bi, 0, none⟩), .pointer (some ⟨bx, 0, none⟩)] (partOf ⟨op, kids, int, text⟩ i) dv wr hn1 (by rw [<- HN.out]; exact hn2) HLR.out.env (may_part wr bf bi bx ⟨ft, fl, fm, fp⟩ i K ⟨op, kids, int, text⟩ HF.out HLR.out.f HLR.out.i HLR.out.x HK.out.1 hik (by have := HK.out.2; omega)))
                         have HR3 : Hid (R = if 0 <= r.2.1 then r else wkL g ⟨op, kids, int, text⟩ (lv + 1) (K - (i + 1)) (i + 1) r.1 r.2.2) := by
                          have h := HR2.out
                          rw [show K - i = (K - (i + 1)) + 1 by omega] at h
                          rw [h, hr]
                          rfl
                         rw [<- hr] at HCALL HGN
                         clear hr hR HRR HR2
                         obtain ⟨nx', wv', dv'⟩ := r
                         dsimp only at HGN HR3
                         go_wp2_with fail
                         refine HCALL.out.mono ?_
                         rintro e w5 ⟨rfl, he5, hc5⟩
                         have HL5 := zh (HLR.out.next he5 hc5)
                         have HL5I := zh (HLR.out.nextI hc5)
                         have g0 : w5.cell? ⟨bi, 0, none⟩ = some (.int .i64 (i : Nat)) := HL5I.out.cell 0
                         clear he5 hc5 e0 e1 e2 e6 HLR HCALL
                         go_wp2_with fail
                         go_roundw
                         case rel =>
                          refine ⟨i + 1, nx', w5.heap.size, wv', dv', rfl, rfl, by omega, by have := HGN.out; omega, by have := HGN.out; rw [HN.out]; exact this.2.1, ?_, ?_⟩
                          . exact HL5.out.fresh (i + 1) _ (by rw [Int.natCast_add]; rfl)
                          . by_cases hw0 : 0 <= wv'
                            . exact .inr ⟨hw0, by have h := HR3.out; rw [if_pos hw0] at h; exact h⟩
                            . exact .inl ⟨by have := HGN.out; omega, by have h := HR3.out; rw [if_neg hw0] at h; exact h⟩
                         case measure => rw [show ptrInt (.pointer (some ⟨w5.heap.size, 0, none⟩)) _ = i + 1 from ptrInt_new w5 i, show ptrInt (.pointer (some ⟨bi, 0, none⟩)) wr = i from ptrInt_of HI0.out]; omega
                       . have d9 : decide (wv < 0) = false := dqf (by omega)
                         clear HRR
                         have HR2 := zh hR
                         clear hR
                         go_wp2_with fail
                         go_ret
                         rw [HR2.out]
                         exact ⟨rfl, HLR.out.env, HLR.out.chg⟩
                     . have d8 : decide ((i : Int) < kids) = false := dqf (by rw [HK.out.1]; omega)
                       have HR2 : Hid (R = (nx, wv, dv)) := by
                        rcases HRR.out with ⟨h1, h2⟩ | ⟨h1, h2⟩
                        . rw [h2, h1, show K - i = 0 by omega]; rfl
                        . exact h2
                       clear hR HRR
                       go_wp2_with fail
                       go_ret
                       rw [HR2.out]
                       exact ⟨rfl, HLR.out.env, HLR.out.chg⟩
                  . have d7 : decide (dp < 0) = false := dqf hdp
                    go_wp2_with fail
                    have H4 : Hid (Env (w2.alloc (.cells #[.int .i64 0] 3)) ⟨bt, bw, bb, bd, bk, gm, m0⟩ (some ⟨b, off, none⟩) c l (-1) (dp) ∧ Blk (w2.alloc (.cells #[.int .i64 0] 3)) bx 42 #[.int .u8 (op : Nat), .int .i64 kids, .int .i64 int, .string text] ∧ Blk (w2.alloc (.cells #[.int .i64 0] 3)) bf 65 #[fv ft, .int .i64 (fl : Nat), .int .i64 (fm : Nat), fv fp] ∧ Blk (w2.alloc (.cells #[.int .i64 0] 3)) w2.heap.size 3 #[.int .i64 0] ∧ Chg (fun b => b = bw ∨ b = bd) w (w2.alloc (.cells #[.int .i64 0] 3)) ∧ w.heap.size <= w2.heap.size) := by
                     refine ⟨H2.out.1.below ((Below.refl _ _).alloc (nlr _) _), H2.out.2.1.alloc _, H2.out.2.2.1.alloc _, Blk.new _ _ _, (Chg.of_below H2.out.2.2.2).alloc _, ?_⟩
                     have := H2.out.2.2.2.size
                     exact this
                    have HBI : Hid (w2.heap.size ≠ bw ∧ w2.heap.size ≠ bd) := by
                     have h1 := H2.out.1.wr.lt
                     have h2 := H2.out.1.dp.lt
                     dsimp only at h1 h2
                     exact ⟨by omega, by omega⟩
                    generalize w2.alloc (.cells #[.int .i64 0] 3) = w4 at *
                    generalize w2.heap.size = bi0 at *
                    have HRG : Hid (R = wkL g ⟨op, kids, int, text⟩ (lv + 1) K 0 (at_ + 1) (dp)) := by
                     have h := HGOOD.out
                     rw [if_neg (by omega)] at h
                     exact h
                    have hmf : ∀ (fn : Fn) (first cap : Array Value) (w : World), (Instr.makeFunc fn first cap).run prog w = .ok (.func fn first cap) w := fun _ _ _ _ => rfl
                    clear H2 z0 z1 z2 z3 q0 q1 q2 v2 v3 v4 v5 HGOOD
                    go_loopw [15, 16] (fun s15 s16 wr => ∃ (i nx bi : Nat) (wv dv : Int), s15 = .int .i64 nx ∧ s16 = .pointer (some ⟨bi, 0, none⟩) ∧ i <= K ∧ at_ < nx ∧ nx <= n ∧ LoopR wr ⟨bt, bw, bb, bd, bk, gm, m0⟩ (some ⟨b, off, none⟩) c l wv dv bx ⟨op, kids, int, text⟩ bf ⟨ft, fl, fm, fp⟩ bi i w ∧ (wv = -1 ∧ R = wkL g ⟨op, kids, int, text⟩ (lv + 1) (K - i) i nx dv ∨ 0 <= wv ∧ R = (nx, wv, dv))) (fun _ s16 wr => K - ptrInt s16 wr)
                    case atStart => exact ⟨0, at_ + 1, bi0, -1, dp, by go_num, rfl, by omega, by omega, by omega, ⟨H4.out.1, H4.out.2.1, H4.out.2.2.1, H4.out.2.2.2.1, ⟨HBI.out.1, HBI.out.2⟩, ⟨HND2.out.1, HND.out.1⟩, ⟨HND2.out.2, HND.out.2⟩, H4.out.2.2.2.2.1⟩, .inl ⟨rfl, HRG.out⟩⟩
                    case round =>
                     clear H4 HRG HBI
                     obtain ⟨i, nx, bi, wv, dv, rfl, rfl, hi, hn1, hn2, hLR, hR⟩ := hrel
                     have HLR := zh hLR
                     have e0 : wr.cell? ⟨bi, 0, none⟩ = some (.int .i64 (i : Nat)) := hLR.i.cell 0
                     have e1 : wr.cell? ⟨bx, 1, none⟩ = some (.int .i64 kids) := hLR.x.cell 1
                     have e2 : wr.cell? ⟨bw, 0, none⟩ = some (.int .i64 wv) := hLR.env.wr.cell 0
                     have e6 : wr.cell? ⟨bk, 0, none⟩ = some (Spot.walk ⟨bt, bw, bb, bd, bk, gm, m0⟩) := hLR.env.wk.cell 0
                     dsimp only [Spot.walk] at e6
                     have HRR := zh hR
                     have HI0 := zh e0
                     clear hLR
                     by_cases hik : i < K
                     . have hK3 : i < 2048 := by have := HK.out.2; omega
                       have d8 : decide ((i : Int) < kids) = true := dqt (by rw [HK.out.1]; omega)
                       rcases hR with ⟨hwv, hR⟩ | ⟨hwv, hR⟩
                       . subst hwv
                         have HR2 := zh hR
                         obtain ⟨r, hr⟩ := ex (g nx (lv + 1) (partOf ⟨op, kids, int, text⟩ i) dv)
                         have HGN := zh (HG.out nx (partOf ⟨op, kids, int, text⟩ i) dv hn1 (by rw [<- HN.out]; exact hn2))
                         have HCALL := zh (HIH.out nx 36 #[.pointer (some ⟨bf, 0, none⟩), .pointer (some ⟨bi, 0, none⟩), .pointer (some ⟨bx, 0, none⟩)] (partOf ⟨op, kids, int, text⟩ i) dv wr hn1 (by rw [<- HN.out]; exact hn2) HLR.out.env (may_part wr bf bi bx ⟨ft, fl, fm, fp⟩ i K ⟨op, kids, int, text⟩ HF.out HLR.out.f HLR.out.i HLR.out.x HK.out.1 hik (by have := HK.out.2; omega)))
                         have HR3 : Hid (R = if 0 <= r.2.1 then r else wkL g ⟨op, kids, int, text⟩ (lv + 1) (K - (i + 1)) (i + 1) r.1 r.2.2) := by
                          have h := HR2.out
                          rw [show K - i = (K - (i + 1)) + 1 by omega] at h
                          rw [h, hr]
                          rfl
                         rw [<- hr] at HCALL HGN
                         clear hr hR HRR HR2
                         obtain ⟨nx', wv', dv'⟩ := r
                         dsimp only at HGN HR3
                         go_wp2_with fail
                         refine HCALL.out.mono ?_
                         rintro e w5 ⟨rfl, he5, hc5⟩
                         have HL5 := zh (HLR.out.next he5 hc5)
                         have HL5I := zh (HLR.out.nextI hc5)
                         have g0 : w5.cell? ⟨bi, 0, none⟩ = some (.int .i64 (i : Nat)) := HL5I.out.cell 0
                         clear he5 hc5 e0 e1 e2 e6 HLR HCALL
                         go_wp2_with fail
                         go_roundw
                         case rel =>
                          refine ⟨i + 1, nx', w5.heap.size, wv', dv', rfl, rfl, by omega, by have := HGN.out; omega, by have := HGN.out; rw [HN.out]; exact this.2.1, ?_, ?_⟩
                          . exact HL5.out.fresh (i + 1) _ (by rw [Int.natCast_add]; rfl)
                          . by_cases hw0 : 0 <= wv'
                            . exact .inr ⟨hw0, by have h := HR3.out; rw [if_pos hw0] at h; exact h⟩
                            . exact .inl ⟨by have := HGN.out; omega, by have h := HR3.out; rw [if_neg hw0] at h; exact h⟩
                         case measure => rw [show ptrInt (.pointer (some ⟨w5.heap.size, 0, none⟩)) _ = i + 1 from ptrInt_new w5 i, show ptrInt (.pointer (some ⟨bi, 0, none⟩)) wr = i from ptrInt_of HI0.out]; omega
                       . have d9 : decide (wv < 0) = false := dqf (by omega)
                         clear HRR
                         have HR2 := zh hR
                         clear hR
                         go_wp2_with fail
                         go_ret
                         rw [HR2.out]
                         exact ⟨rfl, HLR.out.env, HLR.out.chg⟩
                     . have d8 : decide ((i : Int) < kids) = false := dqf (by rw [HK.out.1]; omega)
                       have HR2 : Hid (R = (nx, wv, dv)) := by
                        rcases HRR.out with ⟨h1, h2⟩ | ⟨h1, h2⟩
                        . rw [h2, h1, show K - i = 0 by omega]; rfl
                        . exact h2
                       clear hR HRR
                       go_wp2_with fail
                       go_ret
                       rw [HR2.out]
                       exact ⟨rfl, HLR.out.env, HLR.out.chg⟩
                . have d6 : decide ((40 : Int) < (lv : Int)) = false := dqf (by omega)
                  go_wp2_with fail
                  have H4 : Hid (Env (w2.alloc (.cells #[.int .i64 0] 3)) ⟨bt, bw, bb, bd, bk, gm, m0⟩ (some ⟨b, off, none⟩) c l (-1) (dp) ∧ Blk (w2.alloc (.cells #[.int .i64 0] 3)) bx 42 #[.int .u8 (op : Nat), .int .i64 kids, .int .i64 int, .string text] ∧ Blk (w2.alloc (.cells #[.int .i64 0] 3)) bf 65 #[fv ft, .int .i64 (fl : Nat), .int .i64 (fm : Nat), fv fp] ∧ Blk (w2.alloc (.cells #[.int .i64 0] 3)) w2.heap.size 3 #[.int .i64 0] ∧ Chg (fun b => b = bw ∨ b = bd) w (w2.alloc (.cells #[.int .i64 0] 3)) ∧ w.heap.size <= w2.heap.size) := by
                   refine ⟨H2.out.1.below ((Below.refl _ _).alloc (nlr _) _), H2.out.2.1.alloc _, H2.out.2.2.1.alloc _, Blk.new _ _ _, (Chg.of_below H2.out.2.2.2).alloc _, ?_⟩
                   have := H2.out.2.2.2.size
                   exact this
                  have HBI : Hid (w2.heap.size ≠ bw ∧ w2.heap.size ≠ bd) := by
                   have h1 := H2.out.1.wr.lt
                   have h2 := H2.out.1.dp.lt
                   dsimp only at h1 h2
                   exact ⟨by omega, by omega⟩
                  generalize w2.alloc (.cells #[.int .i64 0] 3) = w4 at *
                  generalize w2.heap.size = bi0 at *
                  have HRG : Hid (R = wkL g ⟨op, kids, int, text⟩ (lv + 1) K 0 (at_ + 1) (dp)) := by
                   have h := HGOOD.out
                   rw [if_neg (by omega)] at h
                   exact h
                  have hmf : ∀ (fn : Fn) (first cap : Array Value) (w : World), (Instr.makeFunc fn first cap).run prog w = .ok (.func fn first cap) w := fun _ _ _ _ => rfl
                  clear H2 z0 z1 z2 z3 q0 q1 q2 v2 v3 v4 v5 HGOOD
                  go_loopw [15, 16] (fun s15 s16 wr => ∃ (i nx bi : Nat) (wv dv : Int), s15 = .int .i64 nx ∧ s16 = .pointer (some ⟨bi, 0, none⟩) ∧ i <= K ∧ at_ < nx ∧ nx <= n ∧ LoopR wr ⟨bt, bw, bb, bd, bk, gm, m0⟩ (some ⟨b, off, none⟩) c l wv dv bx ⟨op, kids, int, text⟩ bf ⟨ft, fl, fm, fp⟩ bi i w ∧ (wv = -1 ∧ R = wkL g ⟨op, kids, int, text⟩ (lv + 1) (K - i) i nx dv ∨ 0 <= wv ∧ R = (nx, wv, dv))) (fun _ s16 wr => K - ptrInt s16 wr)
                  case atStart => exact ⟨0, at_ + 1, bi0, -1, dp, by go_num, rfl, by omega, by omega, by omega, ⟨H4.out.1, H4.out.2.1, H4.out.2.2.1, H4.out.2.2.2.1, ⟨HBI.out.1, HBI.out.2⟩, ⟨HND2.out.1, HND.out.1⟩, ⟨HND2.out.2, HND.out.2⟩, H4.out.2.2.2.2.1⟩, .inl ⟨rfl, HRG.out⟩⟩
                  case round =>
                   clear H4 HRG HBI
                   obtain ⟨i, nx, bi, wv, dv, rfl, rfl, hi, hn1, hn2, hLR, hR⟩ := hrel
                   have HLR := zh hLR
                   have e0 : wr.cell? ⟨bi, 0, none⟩ = some (.int .i64 (i : Nat)) := hLR.i.cell 0
                   have e1 : wr.cell? ⟨bx, 1, none⟩ = some (.int .i64 kids) := hLR.x.cell 1
                   have e2 : wr.cell? ⟨bw, 0, none⟩ = some (.int .i64 wv) := hLR.env.wr.cell 0
                   have e6 : wr.cell? ⟨bk, 0, none⟩ = some (Spot.walk ⟨bt, bw, bb, bd, bk, gm, m0⟩) := hLR.env.wk.cell 0
                   dsimp only [Spot.walk] at e6
                   have HRR := zh hR
                   have HI0 := zh e0
                   clear hLR
                   by_cases hik : i < K
                   . have hK3 : i < 2048 := by have := HK.out.2; omega
                     have d8 : decide ((i : Int) < kids) = true := dqt (by rw [HK.out.1]; omega)
                     rcases hR with ⟨hwv, hR⟩ | ⟨hwv, hR⟩
                     . subst hwv
                       have HR2 := zh hR
                       obtain ⟨r, hr⟩ := ex (g nx (lv + 1) (partOf ⟨op, kids, int, text⟩ i) dv)
                       have HGN := zh (HG.out nx (partOf ⟨op, kids, int, text⟩ i) dv hn1 (by rw [<- HN.out]; exact hn2))
                       have HCALL := zh (HIH.out nx 36 #[.pointer (some ⟨bf, 0, none⟩), .pointer (some ⟨bi, 0, none⟩), .pointer (some ⟨bx, 0, none⟩)] (partOf ⟨op, kids, int, text⟩ i) dv wr hn1 (by rw [<- HN.out]; exact hn2) HLR.out.env (may_part wr bf bi bx ⟨ft, fl, fm, fp⟩ i K ⟨op, kids, int, text⟩ HF.out HLR.out.f HLR.out.i HLR.out.x HK.out.1 hik (by have := HK.out.2; omega)))
                       have HR3 : Hid (R = if 0 <= r.2.1 then r else wkL g ⟨op, kids, int, text⟩ (lv + 1) (K - (i + 1)) (i + 1) r.1 r.2.2) := by
                        have h := HR2.out
                        rw [show K - i = (K - (i + 1)) + 1 by omega] at h
                        rw [h, hr]
                        rfl
                       rw [<- hr] at HCALL HGN
                       clear hr hR HRR HR2
                       obtain ⟨nx', wv', dv'⟩ := r
                       dsimp only at HGN HR3
                       go_wp2_with fail
                       refine HCALL.out.mono ?_
                       rintro e w5 ⟨rfl, he5, hc5⟩
                       have HL5 := zh (HLR.out.next he5 hc5)
                       have HL5I := zh (HLR.out.nextI hc5)
                       have g0 : w5.cell? ⟨bi, 0, none⟩ = some (.int .i64 (i : Nat)) := HL5I.out.cell 0
                       clear he5 hc5 e0 e1 e2 e6 HLR HCALL
                       go_wp2_with fail
                       go_roundw
                       case rel =>
                        refine ⟨i + 1, nx', w5.heap.size, wv', dv', rfl, rfl, by omega, by have := HGN.out; omega, by have := HGN.out; rw [HN.out]; exact this.2.1, ?_, ?_⟩
                        . exact HL5.out.fresh (i + 1) _ (by rw [Int.natCast_add]; rfl)
                        . by_cases hw0 : 0 <= wv'
                          . exact .inr ⟨hw0, by have h := HR3.out; rw [if_pos hw0] at h; exact h⟩
                          . exact .inl ⟨by have := HGN.out; omega, by have h := HR3.out; rw [if_neg hw0] at h; exact h⟩
                       case measure => rw [show ptrInt (.pointer (some ⟨w5.heap.size, 0, none⟩)) _ = i + 1 from ptrInt_new w5 i, show ptrInt (.pointer (some ⟨bi, 0, none⟩)) wr = i from ptrInt_of HI0.out]; omega
                     . have d9 : decide (wv < 0) = false := dqf (by omega)
                       clear HRR
                       have HR2 := zh hR
                       clear hR
                       go_wp2_with fail
                       go_ret
                       rw [HR2.out]
                       exact ⟨rfl, HLR.out.env, HLR.out.chg⟩
                   . have d8 : decide ((i : Int) < kids) = false := dqf (by rw [HK.out.1]; omega)
                     have HR2 : Hid (R = (nx, wv, dv)) := by
                      rcases HRR.out with ⟨h1, h2⟩ | ⟨h1, h2⟩
                      . rw [h2, h1, show K - i = 0 by omega]; rfl
                      . exact h2
                     clear hR HRR
                     go_wp2_with fail
                     go_ret
                     rw [HR2.out]
                     exact ⟨rfl, HLR.out.env, HLR.out.chg⟩
              . by_cases h40 : 40 < lv
                . have d6 : decide ((40 : Int) < (lv : Int)) = true := dqt (by omega)
                  by_cases hdp : dp < 0
                  . have d7 : decide (dp < 0) = true := dqt hdp
                    go_wp2_with fail
                    have H4 : Hid (Env ((w2.setCell ⟨bd, 0, none⟩ (.int .i64 (at_ : Nat))).alloc (.cells #[.int .i64 0] 3)) ⟨bt, bw, bb, bd, bk, gm, m0⟩ (some ⟨b, off, none⟩) c l (-1) ((at_ : Nat)) ∧ Blk ((w2.setCell ⟨bd, 0, none⟩ (.int .i64 (at_ : Nat))).alloc (.cells #[.int .i64 0] 3)) bx 42 #[.int .u8 (op : Nat), .int .i64 kids, .int .i64 int, .string text] ∧ Blk ((w2.setCell ⟨bd, 0, none⟩ (.int .i64 (at_ : Nat))).alloc (.cells #[.int .i64 0] 3)) bf 65 #[fv ft, .int .i64 (fl : Nat), .int .i64 (fm : Nat), fv fp] ∧ Blk ((w2.setCell ⟨bd, 0, none⟩ (.int .i64 (at_ : Nat))).alloc (.cells #[.int .i64 0] 3)) (w2.setCell ⟨bd, 0, none⟩ (.int .i64 (at_ : Nat))).heap.size 3 #[.int .i64 0] ∧ Chg (fun b => b = bw ∨ b = bd) w ((w2.setCell ⟨bd, 0, none⟩ (.int .i64 (at_ : Nat))).alloc (.cells #[.int .i64 0] 3)) ∧ w.heap.size <= (w2.setCell ⟨bd, 0, none⟩ (.int .i64 (at_ : Nat))).heap.size) := by
                     refine ⟨(H2.out.1.setD (at_ : Nat)).below ((Below.refl _ _).alloc (nlr _) _), (Blk.far H2.out.2.1 HND.out.1 _).alloc _, (Blk.far H2.out.2.2.1 HND.out.2 _).alloc _, Blk.new _ _ _, ((Chg.of_below H2.out.2.2.2).setCell (.inr rfl) _).alloc _, ?_⟩
                     have := H2.out.2.2.2.size
                     simpa [World.setCell] using this
                    have hsz : (w2.setCell ⟨bd, 0, none⟩ (.int .i64 (at_ : Nat))).heap.size = w2.heap.size := by simp [World.setCell]
                    rw [hsz] at H4
                    clear hsz
                    have HBI : Hid (w2.heap.size ≠ bw ∧ w2.heap.size ≠ bd) := by
                     have h1 := H2.out.1.wr.lt
                     have h2 := H2.out.1.dp.lt
                     dsimp only at h1 h2
                     exact ⟨by omega, by omega⟩
                    generalize (w2.setCell ⟨bd, 0, none⟩ (.int .i64 (at_ : Nat))).alloc (.cells #[.int .i64 0] 3) = w4 at *
                    generalize w2.heap.size = bi0 at *
                    have HRG : Hid (R = wkL g ⟨op, kids, int, text⟩ (lv + 1) K 0 (at_ + 1) ((at_ : Nat))) := by
                     have h := HGOOD.out
                     rw [if_pos (ai h40 hdp)] at h
                     exact h
                    have hmf : ∀ (fn : Fn) (first cap : Array Value) (w : World), (Instr.makeFunc fn first cap).run prog w = .ok (.func fn first cap) w := fun _ _ _ _ => rfl
                    clear H2 z0 z1 z2 z3 q0 q1 q2 v2 v3 v4 v5 HGOOD
                    go_loopw [15, 16] (fun s15 s16 wr => ∃ (i nx bi : Nat) (wv dv : Int), s15 = .int .i64 nx ∧ s16 = .pointer (some ⟨bi, 0, none⟩) ∧ i <= K ∧ at_ < nx ∧ nx <= n ∧ LoopR wr ⟨bt, bw, bb, bd, bk, gm, m0⟩ (some ⟨b, off, none⟩) c l wv dv bx ⟨op, kids, int, text⟩ bf ⟨ft, fl, fm, fp⟩ bi i w ∧ (wv = -1 ∧ R = wkL g ⟨op, kids, int, text⟩ (lv + 1) (K - i) i nx dv ∨ 0 <= wv ∧ R = (nx, wv, dv))) (fun _ s16 wr => K - ptrInt s16 wr)
                    case atStart => exact ⟨0, at_ + 1, bi0, -1, (at_ : Nat), by go_num, rfl, by omega, by omega, by omega, ⟨H4.out.1, H4.out.2.1, H4.out.2.2.1, H4.out.2.2.2.1, ⟨HBI.out.1, HBI.out.2⟩, ⟨HND2.out.1, HND.out.1⟩, ⟨HND2.out.2, HND.out.2⟩, H4.out.2.2.2.2.1⟩, .inl ⟨rfl, HRG.out⟩⟩
                    case round =>
                     clear H4 HRG HBI
                     obtain ⟨i, nx, bi, wv, dv, rfl, rfl, hi, hn1, hn2, hLR, hR⟩ := hrel
                     have HLR := zh hLR
                     have e0 : wr.cell? ⟨bi, 0, none⟩ = some (.int .i64 (i : Nat)) := hLR.i.cell 0
                     have e1 : wr.cell? ⟨bx, 1, none⟩ = some (.int .i64 kids) := hLR.x.cell 1
                     have e2 : wr.cell? ⟨bw, 0, none⟩ = some (.int .i64 wv) := hLR.env.wr.cell 0
                     have e6 : wr.cell? ⟨bk, 0, none⟩ = some (Spot.walk ⟨bt, bw, bb, bd, bk, gm, m0⟩) := hLR.env.wk.cell 0
                     dsimp only [Spot.walk] at e6
                     have HRR := zh hR
                     have HI0 := zh e0
                     clear hLR
                     by_cases hik : i < K
                     . have hK3 : i < 2048 := by have := HK.out.2; omega
                       have d8 : decide ((i : Int) < kids) = true := dqt (by rw [HK.out.1]; omega)
                       rcases hR with ⟨hwv, hR⟩ | ⟨hwv, hR⟩
                       . subst hwv
                         have HR2 := zh hR
                         obtain ⟨r, hr⟩ := ex (g nx (lv + 1) (partOf ⟨op, kids, int, text⟩ i) dv)
                         have HGN := zh (HG.out nx (partOf ⟨op, kids, int, text⟩ i) dv hn1 (by rw [<- HN.out]; exact hn2))
                         have HCALL := zh (HIH.out nx 36 #[.pointer (some ⟨bf, 0, none⟩), .pointer (some ⟨bi, 0, none⟩), .pointer (some ⟨bx, 0, none⟩)] (partOf ⟨op, kids, int, text⟩ i) dv wr hn1 (by rw [<- HN.out]; exact hn2) HLR.out.env (may_part wr bf bi bx ⟨ft, fl, fm, fp⟩ i K ⟨op, kids, int, text⟩ HF.out HLR.out.f HLR.out.i HLR.out.x HK.out.1 hik (by have := HK.out.2; omega)))
                         have HR3 : Hid (R = if 0 <= r.2.1 then r else wkL g ⟨op, kids, int, text⟩ (lv + 1) (K - (i + 1)) (i + 1) r.1 r.2.2) := by
                          have h := HR2.out
                          rw [show K - i = (K - (i + 1)) + 1 by omega] at h
                          rw [h, hr]
                          rfl
                         rw [<- hr] at HCALL HGN
                         clear hr hR HRR HR2
                         obtain ⟨nx', wv', dv'⟩ := r
                         dsimp only at HGN HR3
                         go_wp2_with fail
                         refine HCALL.out.mono ?_
                         rintro e w5 ⟨rfl, he5, hc5⟩
                         have HL5 := zh (HLR.out.next he5 hc5)
                         have HL5I := zh (HLR.out.nextI hc5)
                         have g0 : w5.cell? ⟨bi, 0, none⟩ = some (.int .i64 (i : Nat)) := HL5I.out.cell 0
                         clear he5 hc5 e0 e1 e2 e6 HLR HCALL
                         go_wp2_with fail
                         go_roundw
                         case rel =>
                          refine ⟨i + 1, nx', w5.heap.size, wv', dv', rfl, rfl, by omega, by have := HGN.out; omega, by have := HGN.out; rw [HN.out]; exact this.2.1, ?_, ?_⟩
                          . exact HL5.out.fresh (i + 1) _ (by rw [Int.natCast_add]; rfl)
                          . by_cases hw0 : 0 <= wv'
                            . exact .inr ⟨hw0, by have h := HR3.out; rw [if_pos hw0] at h; exact h⟩
                            . exact .inl ⟨by have := HGN.out; omega, by have h := HR3.out; rw [if_neg hw0] at h; exact h⟩
                         case measure => rw [show ptrInt (.pointer (some ⟨w5.heap.size, 0, none⟩)) _ = i + 1 from ptrInt_new w5 i, show ptrInt (.pointer (some ⟨bi, 0, none⟩)) wr = i from ptrInt_of HI0.out]; omega
                       . have d9 : decide (wv < 0) = false := dqf (by omega)
                         clear HRR
                         have HR2 := zh hR
                         clear hR
                         go_wp2_with fail
                         go_ret
                         rw [HR2.out]
                         exact ⟨rfl, HLR.out.env, HLR.out.chg⟩
                     . have d8 : decide ((i : Int) < kids) = false := dqf (by rw [HK.out.1]; omega)
                       have HR2 : Hid (R = (nx, wv, dv)) := by
                        rcases HRR.out with ⟨h1, h2⟩ | ⟨h1, h2⟩
                        . rw [h2, h1, show K - i = 0 by omega]; rfl
                        . exact h2
                       clear hR HRR
                       go_wp2_with fail
                       go_ret
                       rw [HR2.out]
                       exact ⟨rfl, HLR.out.env, HLR.out.chg⟩
                  . have d7 : decide (dp < 0) = false := dqf hdp
                    go_wp2_with fail
                    have H4 : Hid (Env (w2.alloc (.cells #[.int .i64 0] 3)) ⟨bt, bw, bb, bd, bk, gm, m0⟩ (some ⟨b, off, none⟩) c l (-1) (dp) ∧ Blk (w2.alloc (.cells #[.int .i64 0] 3)) bx 42 #[.int .u8 (op : Nat), .int .i64 kids, .int .i64 int, .string text] ∧ Blk (w2.alloc (.cells #[.int .i64 0] 3)) bf 65 #[fv ft, .int .i64 (fl : Nat), .int .i64 (fm : Nat), fv fp] ∧ Blk (w2.alloc (.cells #[.int .i64 0] 3)) w2.heap.size 3 #[.int .i64 0] ∧ Chg (fun b => b = bw ∨ b = bd) w (w2.alloc (.cells #[.int .i64 0] 3)) ∧ w.heap.size <= w2.heap.size) := by
                     refine ⟨H2.out.1.below ((Below.refl _ _).alloc (nlr _) _), H2.out.2.1.alloc _, H2.out.2.2.1.alloc _, Blk.new _ _ _, (Chg.of_below H2.out.2.2.2).alloc _, ?_⟩
                     have := H2.out.2.2.2.size
                     exact this
                    have HBI : Hid (w2.heap.size ≠ bw ∧ w2.heap.size ≠ bd) := by
                     have h1 := H2.out.1.wr.lt
                     have h2 := H2.out.1.dp.lt
                     dsimp only at h1 h2
                     exact ⟨by omega, by omega⟩
                    generalize w2.alloc (.cells #[.int .i64 0] 3) = w4 at *
                    generalize w2.heap.size = bi0 at *
                    have HRG : Hid (R = wkL g ⟨op, kids, int, text⟩ (lv + 1) K 0 (at_ + 1) (dp)) := by
                     have h := HGOOD.out
                     rw [if_neg (by omega)] at h
                     exact h
                    have hmf : ∀ (fn : Fn) (first cap : Array Value) (w : World), (Instr.makeFunc fn first cap).run prog w = .ok (.func fn first cap) w := fun _ _ _ _ => rfl
                    clear H2 z0 z1 z2 z3 q0 q1 q2 v2 v3 v4 v5 HGOOD
                    go_loopw [15, 16] (fun s15 s16 wr => ∃ (i nx bi : Nat) (wv dv : Int), s15 = .int .i64 nx ∧ s16 = .pointer (some ⟨bi, 0, none⟩) ∧ i <= K ∧ at_ < nx ∧ nx <= n ∧ LoopR wr ⟨bt, bw, bb, bd, bk, gm, m0⟩ (some ⟨b, off, none⟩) c l wv dv bx ⟨op, kids, int, text⟩ bf ⟨ft, fl, fm, fp⟩ bi i w ∧ (wv = -1 ∧ R = wkL g ⟨op, kids, int, text⟩ (lv + 1) (K - i) i nx dv ∨ 0 <= wv ∧ R = (nx, wv, dv))) (fun _ s16 wr => K - ptrInt s16 wr)
                    case atStart => exact ⟨0, at_ + 1, bi0, -1, dp, by go_num, rfl, by omega, by omega, by omega, ⟨H4.out.1, H4.out.2.1, H4.out.2.2.1, H4.out.2.2.2.1, ⟨HBI.out.1, HBI.out.2⟩, ⟨HND2.out.1, HND.out.1⟩, ⟨HND2.out.2, HND.out.2⟩, H4.out.2.2.2.2.1⟩, .inl ⟨rfl, HRG.out⟩⟩
                    case round =>
                     clear H4 HRG HBI
                     obtain ⟨i, nx, bi, wv, dv, rfl, rfl, hi, hn1, hn2, hLR, hR⟩ := hrel
                     have HLR := zh hLR
                     have e0 : wr.cell? ⟨bi, 0, none⟩ = some (.int .i64 (i : Nat)) := hLR.i.cell 0
                     have e1 : wr.cell? ⟨bx, 1, none⟩ = some (.int .i64 kids) := hLR.x.cell 1
                     have e2 : wr.cell? ⟨bw, 0, none⟩ = some (.int .i64 wv) := hLR.env.wr.cell 0
                     have e6 : wr.cell? ⟨bk, 0, none⟩ = some (Spot.walk ⟨bt, bw, bb, bd, bk, gm, m0⟩) := hLR.env.wk.cell 0
                     dsimp only [Spot.walk] at e6
                     have HRR := zh hR
                     have HI0 := zh e0
                     clear hLR
                     by_cases hik : i < K
                     . have hK3 : i < 2048 := by have := HK.out.2; omega
                       have d8 : decide ((i : Int) < kids) = true := dqt (by rw [HK.out.1]; omega)
                       rcases hR with ⟨hwv, hR⟩ | ⟨hwv, hR⟩
                       . subst hwv
                         have HR2 := zh hR
                         obtain ⟨r, hr⟩ := ex (g nx (lv + 1) (partOf ⟨op, kids, int, text⟩ i) dv)
                         have HGN := zh (HG.out nx (partOf ⟨op, kids, int, text⟩ i) dv hn1 (by rw [<- HN.out]; exact hn2))
                         have HCALL := zh (HIH.out nx 36 #[.pointer (some ⟨bf, 0, none⟩), .pointer (some ⟨bi, 0, none⟩), .pointer (some ⟨bx, 0, none⟩)] (partOf ⟨op, kids, int, text⟩ i) dv wr hn1 (by rw [<- HN.out]; exact hn2) HLR.out.env (may_part wr bf bi bx ⟨ft, fl, fm, fp⟩ i K ⟨op, kids, int, text⟩ HF.out HLR.out.f HLR.out.i HLR.out.x HK.out.1 hik (by have := HK.out.2; omega)))
                         have HR3 : Hid (R = if 0 <= r.2.1 then r else wkL g ⟨op, kids, int, text⟩ (lv + 1) (K - (i + 1)) (i + 1) r.1 r.2.2) := by
                          have h := HR2.out
                          rw [show K - i = (K - (i + 1)) + 1 by omega] at h
                          rw [h, hr]
                          rfl
                         rw [<- hr] at HCALL HGN
                         clear hr hR HRR HR2
                         obtain ⟨nx', wv', dv'⟩ := r
                         dsimp only at HGN HR3
                         go_wp2_with fail
                         refine HCALL.out.mono ?_
                         rintro e w5 ⟨rfl, he5, hc5⟩
                         have HL5 := zh (HLR.out.next he5 hc5)
                         have HL5I := zh (HLR.out.nextI hc5)
                         have g0 : w5.cell? ⟨bi, 0, none⟩ = some (.int .i64 (i : Nat)) := HL5I.out.cell 0
                         clear he5 hc5 e0 e1 e2 e6 HLR HCALL
                         go_wp2_with fail
                         go_roundw
                         case rel =>
                          refine ⟨i + 1, nx', w5.heap.size, wv', dv', rfl, rfl, by omega, by have := HGN.out; omega, by have := HGN.out; rw [HN.out]; exact this.2.1, ?_, ?_⟩
                          . exact HL5.out.fresh (i + 1) _ (by rw [Int.natCast_add]; rfl)
                          . by_cases hw0 : 0 <= wv'
                            . exact .inr ⟨hw0, by have h := HR3.out; rw [if_pos hw0] at h; exact h⟩
                            . exact .inl ⟨by have := HGN.out; omega, by have h := HR3.out; rw [if_neg hw0] at h; exact h⟩
                         case measure => rw [show ptrInt (.pointer (some ⟨w5.heap.size, 0, none⟩)) _ = i + 1 from ptrInt_new w5 i, show ptrInt (.pointer (some ⟨bi, 0, none⟩)) wr = i from ptrInt_of HI0.out]; omega
                       . have d9 : decide (wv < 0) = false := dqf (by omega)
                         clear HRR
                         have HR2 := zh hR
                         clear hR
                         go_wp2_with fail
                         go_ret
                         rw [HR2.out]
                         exact ⟨rfl, HLR.out.env, HLR.out.chg⟩
                     . have d8 : decide ((i : Int) < kids) = false := dqf (by rw [HK.out.1]; omega)
                       have HR2 : Hid (R = (nx, wv, dv)) := by
                        rcases HRR.out with ⟨h1, h2⟩ | ⟨h1, h2⟩
                        . rw [h2, h1, show K - i = 0 by omega]; rfl
                        . exact h2
                       clear hR HRR
                       go_wp2_with fail
                       go_ret
                       rw [HR2.out]
                       exact ⟨rfl, HLR.out.env, HLR.out.chg⟩
                . have d6 : decide ((40 : Int) < (lv : Int)) = false := dqf (by omega)
                  go_wp2_with fail
                  have H4 : Hid (Env (w2.alloc (.cells #[.int .i64 0] 3)) ⟨bt, bw, bb, bd, bk, gm, m0⟩ (some ⟨b, off, none⟩) c l (-1) (dp) ∧ Blk (w2.alloc (.cells #[.int .i64 0] 3)) bx 42 #[.int .u8 (op : Nat), .int .i64 kids, .int .i64 int, .string text] ∧ Blk (w2.alloc (.cells #[.int .i64 0] 3)) bf 65 #[fv ft, .int .i64 (fl : Nat), .int .i64 (fm : Nat), fv fp] ∧ Blk (w2.alloc (.cells #[.int .i64 0] 3)) w2.heap.size 3 #[.int .i64 0] ∧ Chg (fun b => b = bw ∨ b = bd) w (w2.alloc (.cells #[.int .i64 0] 3)) ∧ w.heap.size <= w2.heap.size) := by
                   refine ⟨H2.out.1.below ((Below.refl _ _).alloc (nlr _) _), H2.out.2.1.alloc _, H2.out.2.2.1.alloc _, Blk.new _ _ _, (Chg.of_below H2.out.2.2.2).alloc _, ?_⟩
                   have := H2.out.2.2.2.size
                   exact this
                  have HBI : Hid (w2.heap.size ≠ bw ∧ w2.heap.size ≠ bd) := by
                   have h1 := H2.out.1.wr.lt
                   have h2 := H2.out.1.dp.lt
                   dsimp only at h1 h2
                   exact ⟨by omega, by omega⟩
                  generalize w2.alloc (.cells #[.int .i64 0] 3) = w4 at *
                  generalize w2.heap.size = bi0 at *
                  have HRG : Hid (R = wkL g ⟨op, kids, int, text⟩ (lv + 1) K 0 (at_ + 1) (dp)) := by
                   have h := HGOOD.out
                   rw [if_neg (by omega)] at h
                   exact h
                  have hmf : ∀ (fn : Fn) (first cap : Array Value) (w : World), (Instr.makeFunc fn first cap).run prog w = .ok (.func fn first cap) w := fun _ _ _ _ => rfl
                  clear H2 z0 z1 z2 z3 q0 q1 q2 v2 v3 v4 v5 HGOOD
                  go_loopw [15, 16] (fun s15 s16 wr => ∃ (i nx bi : Nat) (wv dv : Int), s15 = .int .i64 nx ∧ s16 = .pointer (some ⟨bi, 0, none⟩) ∧ i <= K ∧ at_ < nx ∧ nx <= n ∧ LoopR wr ⟨bt, bw, bb, bd, bk, gm, m0⟩ (some ⟨b, off, none⟩) c l wv dv bx ⟨op, kids, int, text⟩ bf ⟨ft, fl, fm, fp⟩ bi i w ∧ (wv = -1 ∧ R = wkL g ⟨op, kids, int, text⟩ (lv + 1) (K - i) i nx dv ∨ 0 <= wv ∧ R = (nx, wv, dv))) (fun _ s16 wr => K - ptrInt s16 wr)
                  case atStart => exact ⟨0, at_ + 1, bi0, -1, dp, by go_num, rfl, by omega, by omega, by omega, ⟨H4.out.1, H4.out.2.1, H4.out.2.2.1, H4.out.2.2.2.1, ⟨HBI.out.1, HBI.out.2⟩, ⟨HND2.out.1, HND.out.1⟩, ⟨HND2.out.2, HND.out.2⟩, H4.out.2.2.2.2.1⟩, .inl ⟨rfl, HRG.out⟩⟩
                  case round =>
                   clear H4 HRG HBI
                   obtain ⟨i, nx, bi, wv, dv, rfl, rfl, hi, hn1, hn2, hLR, hR⟩ := hrel
                   have HLR := zh hLR
                   have e0 : wr.cell? ⟨bi, 0, none⟩ = some (.int .i64 (i : Nat)) := hLR.i.cell 0
                   have e1 : wr.cell? ⟨bx, 1, none⟩ = some (.int .i64 kids) := hLR.x.cell 1
                   have e2 : wr.cell? ⟨bw, 0, none⟩ = some (.int .i64 wv) := hLR.env.wr.cell 0
                   have e6 : wr.cell? ⟨bk, 0, none⟩ = some (Spot.walk ⟨bt, bw, bb, bd, bk, gm, m0⟩) := hLR.env.wk.cell 0
                   dsimp only [Spot.walk] at e6
                   have HRR := zh hR
                   have HI0 := zh e0
                   clear hLR
                   by_cases hik : i < K
                   . have hK3 : i < 2048 := by have := HK.out.2; omega
                     have d8 : decide ((i : Int) < kids) = true := dqt (by rw [HK.out.1]; omega)
                     rcases hR with ⟨hwv, hR⟩ | ⟨hwv, hR⟩
                     . subst hwv
                       have HR2 := zh hR
                       obtain ⟨r, hr⟩ := ex (g nx (lv + 1) (partOf ⟨op, kids, int, text⟩ i) dv)
                       have HGN := zh (HG.out nx (partOf ⟨op, kids, int, text⟩ i) dv hn1 (by rw [<- HN.out]; exact hn2))
                       have HCALL := zh (HIH.out nx 36 #[.pointer (some ⟨bf, 0, none⟩), .pointer (some ⟨bi, 0, none⟩), .pointer (some ⟨bx, 0, none⟩)] (partOf ⟨op, kids, int, text⟩ i) dv wr hn1 (by rw [<- HN.out]; exact hn2) HLR.out.env (may_part wr bf bi bx ⟨ft, fl, fm, fp⟩ i K ⟨op, kids, int, text⟩ HF.out HLR.out.f HLR.out.i HLR.out.x HK.out.1 hik (by have := HK.out.2; omega)))
                       have HR3 : Hid (R = if 0 <= r.2.1 then r else wkL g ⟨op, kids, int, text⟩ (lv + 1) (K - (i + 1)) (i + 1) r.1 r.2.2) := by
                        have h := HR2.out
                        rw [show K - i = (K - (i + 1)) + 1 by omega] at h
                        rw [h, hr]
                        rfl
                       rw [<- hr] at HCALL HGN
                       clear hr hR HRR HR2
                       obtain ⟨nx', wv', dv'⟩ := r
                       dsimp only at HGN HR3
                       go_wp2_with fail
                       refine HCALL.out.mono ?_
                       rintro e w5 ⟨rfl, he5, hc5⟩
                       have HL5 := zh (HLR.out.next he5 hc5)
                       have HL5I := zh (HLR.out.nextI hc5)
                       have g0 : w5.cell? ⟨bi, 0, none⟩ = some (.int .i64 (i : Nat)) := HL5I.out.cell 0
                       clear he5 hc5 e0 e1 e2 e6 HLR HCALL
                       go_wp2_with fail
                       go_roundw
                       case rel =>
                        refine ⟨i + 1, nx', w5.heap.size, wv', dv', rfl, rfl, by omega, by have := HGN.out; omega, by have := HGN.out; rw [HN.out]; exact this.2.1, ?_, ?_⟩
                        . exact HL5.out.fresh (i + 1) _ (by rw [Int.natCast_add]; rfl)
                        . by_cases hw0 : 0 <= wv'
                          . exact .inr ⟨hw0, by have h := HR3.out; rw [if_pos hw0] at h; exact h⟩
                          . exact .inl ⟨by have := HGN.out; omega, by have h := HR3.out; rw [if_neg hw0] at h; exact h⟩
                       case measure => rw [show ptrInt (.pointer (some ⟨w5.heap.size, 0, none⟩)) _ = i + 1 from ptrInt_new w5 i, show ptrInt (.pointer (some ⟨bi, 0, none⟩)) wr = i from ptrInt_of HI0.out]; omega
                     . have d9 : decide (wv < 0) = false := dqf (by omega)
                       clear HRR
                       have HR2 := zh hR
                       clear hR
                       go_wp2_with fail
                       go_ret
                       rw [HR2.out]
                       exact ⟨rfl, HLR.out.env, HLR.out.chg⟩
                   . have d8 : decide ((i : Int) < kids) = false := dqf (by rw [HK.out.1]; omega)
                     have HR2 : Hid (R = (nx, wv, dv)) := by
                      rcases HRR.out with ⟨h1, h2⟩ | ⟨h1, h2⟩
                      . rw [h2, h1, show K - i = 0 by omega]; rfl
                      . exact h2
                     clear hR HRR
                     go_wp2_with fail
                     go_ret
                     rw [HR2.out]
                     exact ⟨rfl, HLR.out.env, HLR.out.chg⟩
          . have HRB := zh (HBAD.out (by rw [HFB.out, dqf t3]; simp))
            have e3 : ((op : Int) != 23) = true := by rw [bne_iff_ne]; omega
            have e5 : (int != 0) = true := by rw [bne_iff_ne]; omega
            clear t3
            go_wp2_with fail
            go_ret
            rw [HRB.out]
            exact ⟨rfl, H2.out.1.setW (at_ : Nat), (Chg.of_below H2.out.2.2.2).setCell (.inl rfl) _⟩
theorem wkL_wr {g : Nat -> Nat -> (Nat -> Bool) -> Int -> Nat × Int × Int} {x : Tw} {lv : Nat} (hg : ∀ nx may dp, (g nx lv may dp).2.1 = -1 ∨ 0 <= (g nx lv may dp).2.1) : ∀ k i nx dp, (wkL g x lv k i nx dp).2.1 = -1 ∨ 0 <= (wkL g x lv k i nx dp).2.1
 | 0, _, _, _ => .inl rfl
 | k + 1, i, nx, dp => by
  unfold wkL
  split
  . exact hg _ _ _
  . exact wkL_wr (x := x) hg k (i + 1) _ _
theorem wk_wr : ∀ f (l : List Tw) at_ lv may dp, (wk f l at_ lv may dp).2.1 = -1 ∨ 0 <= (wk f l at_ lv may dp).2.1
 | 0, l, at_, _, _, _ => .inr (by unfold wk; exact Int.natCast_nonneg _)
 | f + 1, l, at_, lv, may, dp => by
  unfold wk
  split
  . exact .inr (Int.natCast_nonneg _)
  . split
    . exact wkL_wr (fun nx may dp => wk_wr f l nx (lv + 1) may dp) _ _ _ _
    . exact .inr (Int.natCast_nonneg _)
theorem walk_any (s : Spot) (A : Option Addr) (c : Nat) (l : List Tw) (hl : l.length <= 2048) (hok : ∀ x ∈ l, TwOk x) : ∀ (f at_ lv m : Nat) (caps : Array Value) (P : Nat -> Bool) (dp : Int) (w : World), l.length <= at_ + f -> at_ <= l.length -> lv <= at_ + 1 -> Env w s A c l (-1) dp -> MayOk w m caps P ->
 Calls prog 35 (s.args at_ (lv : Int) m caps) w (WkPost s A c l w (wk f l at_ lv P dp)) := by
 intro f
 induction f with
 | zero =>
  intro at_ lv m caps P dp w h1 h2 h3 henv hmay
  have he : at_ = l.length := by omega
  subst he
  exact walk_end s A c l lv m caps dp w hl henv
 | succ f ih =>
  intro at_ lv m caps P dp w h1 h2 h3 henv hmay
  unfold wk
  cases hx : l[at_]? with
  | none =>
   have he : at_ = l.length := by have := List.getElem?_eq_none_iff.1 hx; omega
   subst he
   exact walk_end s A c l lv m caps dp w hl henv
  | some x =>
   have hlt := (List.getElem?_eq_some_iff.1 hx).1
   refine walk_step s A c l (wk f l) at_ lv m caps P dp w x hx hl (hok x (List.mem_of_getElem? hx)) (by omega) henv hmay (fun nx P dp hn1 hn2 => ?_) (fun nx m caps P dp w hn1 hn2 he hm => ?_)
   . have h := wk_le f l nx (lv + 1) P dp hn2
     exact ⟨h.1, h.2, wk_wr f l nx (lv + 1) P dp⟩
   . have h := ih nx (lv + 1) m caps P dp w (by omega) hn2 (by omega) he hm
     rw [show ((lv + 1 : Nat) : Int) = (lv : Int) + 1 from by omega] at h
     exact h
theorem RdW.below {w w' : World} {A : Option Addr} {l : List Tw} (h : RdW w A l) (hb : Below w.heap.size w w') : RdW w' A l := h.chg (T := fun _ => False) (.of_below hb) (fun _ _ _ h => h)
theorem env_new (w1 : World) (bt gm m : Nat) (A : Option Addr) (c n : Nat) (l : List Tw) (hn : n = l.length) (h1 : Blk w1 bt 23 #[.slice A n c]) (h2 : MapF w1 gm m formOf) (h3 : RdW w1 A l) (h4 : ∀ a, A = some a -> l ≠ [] -> a.block < w1.heap.size) :
 Env ((((w1.alloc (.cells #[.map (some gm)] 60)).alloc (.cells #[.int .i64 (-1)] 3)).alloc (.cells #[.int .i64 (-1)] 3)).alloc (.cells #[Spot.walk ⟨bt, w1.heap.size + 1, w1.heap.size, w1.heap.size + 1 + 1, w1.heap.size + 1 + 1 + 1, gm, m⟩] 62)) ⟨bt, w1.heap.size + 1, w1.heap.size, w1.heap.size + 1 + 1, w1.heap.size + 1 + 1 + 1, gm, m⟩ A c l (-1) (-1) := by
 subst hn
 have hb : Below w1.heap.size w1 ((((w1.alloc (.cells #[.map (some gm)] 60)).alloc (.cells #[.int .i64 (-1)] 3)).alloc (.cells #[.int .i64 (-1)] 3)).alloc (.cells #[Spot.walk ⟨bt, w1.heap.size + 1, w1.heap.size, w1.heap.size + 1 + 1, w1.heap.size + 1 + 1 + 1, gm, m⟩] 62)) :=
  ((((Below.refl _ _).alloc (nlr _) _).alloc (by simp) _).alloc (by simp; omega) _).alloc (by simp; omega) _
 have e1 : (w1.alloc (.cells #[.map (some gm)] 60)).heap.size = w1.heap.size + 1 := by simp
 have e2 : ((w1.alloc (.cells #[.map (some gm)] 60)).alloc (.cells #[.int .i64 (-1)] 3)).heap.size = w1.heap.size + 1 + 1 := by simp
 have e3 : (((w1.alloc (.cells #[.map (some gm)] 60)).alloc (.cells #[.int .i64 (-1)] 3)).alloc (.cells #[.int .i64 (-1)] 3)).heap.size = w1.heap.size + 1 + 1 + 1 := by simp
 have b1 := Blk.new (w1.alloc (.cells #[.map (some gm)] 60)) 3 #[.int .i64 (-1)]
 rw [e1] at b1
 have b2 := Blk.new ((w1.alloc (.cells #[.map (some gm)] 60)).alloc (.cells #[.int .i64 (-1)] 3)) 3 #[.int .i64 (-1)]
 rw [e2] at b2
 have b3 := Blk.new (((w1.alloc (.cells #[.map (some gm)] 60)).alloc (.cells #[.int .i64 (-1)] 3)).alloc (.cells #[.int .i64 (-1)] 3)) 62 #[Spot.walk ⟨bt, w1.heap.size + 1, w1.heap.size, w1.heap.size + 1 + 1, w1.heap.size + 1 + 1 + 1, gm, m⟩]
 rw [e3] at b3
 refine ⟨h1.below hb h1.lt, (b1.alloc _).alloc _, (((Blk.new w1 60 #[.map (some gm)]).alloc _).alloc _).alloc _, b2.alloc _, b3, h2.below hb, h3.below hb, by dsimp only; omega, ?_, fun a ha hl => ?_⟩
 . have := h2.lt
   dsimp only
   omega
 . have := h4 a ha hl
   dsimp only
   omega
def chk (l : List Tw) : Int × Int :=
 if 2048 < l.length then (0, 2)
 else if 0 <= (wk l.length l 0 1 (fun _ => true) (-1)).2.1 then ((wk l.length l 0 1 (fun _ => true) (-1)).2.1, 3)
 else if (wk l.length l 0 1 (fun _ => true) (-1)).1 < l.length then (((wk l.length l 0 1 (fun _ => true) (-1)).1 : Nat), 3)
 else if 0 <= (wk l.length l 0 1 (fun _ => true) (-1)).2.2 then ((wk l.length l 0 1 (fun _ => true) (-1)).2.2, 2)
 else (0, 0)
set_option maxRecDepth 100000 in
theorem check_any (A : Option Addr) (c : Nat) (l : List Tw) (w : World) (hok : ∀ x ∈ l, TwOk x) (hrd : RdW w A l) (hlen : l.length <= 9223372036854775807) (hA : ∀ a, A = some a -> l ≠ [] -> a.block < w.heap.size) :
 Calls prog 18 #[.slice A l.length c] w fun e w' => e = .returned (.tuple #[.int .i64 (chk l).1, .int .i64 (chk l).2]) ∧ Below w.heap.size w w' := by
 obtain ⟨n, hn⟩ := ex l.length
 obtain ⟨R, hR⟩ := ex (wk l.length l 0 1 (fun _ => true) (-1))
 have hC : chk l = if 2048 < n then (0, 2) else if 0 <= R.2.1 then (R.2.1, 3) else if R.1 < n then ((R.1 : Nat), 3) else if 0 <= R.2.2 then (R.2.2, 2) else (0, 0) := by rw [hR, hn]; rfl
 obtain ⟨r, hr⟩ := ex (chk l)
 rw [<- hr] at hC |-
 rw [<- hn] at hlen |-
 have HN := zh hn
 have HC := zh hC
 have HOK := zh (ai hok (ai hrd hA))
 have HR := zh hR
 clear hn hC hr hR hok hrd hA
 by_cases hlong : 2048 < n
 . have HC2 := zh (show r = (0, 2) from by rw [HC.out, if_pos hlong])
   go_in
   go_wp2_with fail
   go_ret2
   rw [HC2.out]
   exact ⟨rfl, (Below.refl _ _).alloc (nlr _) _⟩
 . have HF := zh (fun W => forms_any W)
   go_in
   go_wp2_with fail
   refine (HF.out _).mono ?_
   rintro e w1 ⟨gm, m, rfl, hm, hb, hg⟩
   have hmf : ∀ (fn : Fn) (first cap : Array Value) (w : World), (Instr.makeFunc fn first cap).run prog w = .ok (.func fn first cap) w := fun _ _ _ _ => rfl
   have hb0 : Below w.heap.size w w1 := ((Below.refl _ _).alloc (nlr _) _).trans (hb.mono (by simp))
   have hbt : Blk w1 w.heap.size 23 #[.slice A n c] := (Blk.new w 23 #[.slice A n c]).below hb (by simp)
   have HM := zh (ai hm (ai hb0 hbt))
   have HG := zh hg
   clear hm hb hg hb0 hbt
   have HE := zh (env_new w1 w.heap.size gm m A c n l HN.out HM.out.2.2 HM.out.1 (HOK.out.2.1.below (HM.out.2.1)) (fun a ha hl => Nat.lt_of_lt_of_le (HOK.out.2.2 a ha hl) HM.out.2.1.size))
   have HB5 : Hid (Below w1.heap.size w1 ((((w1.alloc (.cells #[.map (some gm)] 60)).alloc (.cells #[.int .i64 (-1)] 3)).alloc (.cells #[.int .i64 (-1)] 3)).alloc (.cells #[Spot.walk ⟨w.heap.size, w1.heap.size + 1, w1.heap.size, w1.heap.size + 1 + 1, w1.heap.size + 1 + 1 + 1, gm, m⟩] 62))) := ((((Below.refl _ _).alloc (nlr _) _).alloc (by simp) _).alloc (by simp; omega) _).alloc (by simp; omega) _
   have HWK := zh (fun W hE => walk_any ⟨w.heap.size, w1.heap.size + 1, w1.heap.size, w1.heap.size + 1 + 1, w1.heap.size + 1 + 1 + 1, gm, m⟩ A c l (by rw [<- HN.out]; omega) HOK.out.1 l.length 0 1 37 #[] (fun _ => true) (-1) W (by omega) (by omega) (by omega) hE (may_true W))
   rw [<- HR.out] at HWK
   dsimp only [Spot.walk, Spot.args] at HE HB5 HWK
   go_wp2_with fail
   have HCALL := zh (HWK.out _ HE.out)
   generalize (((w1.alloc (.cells #[.map (some gm)] 60)).alloc (.cells #[.int .i64 (-1)] 3)).alloc (.cells #[.int .i64 (-1)] 3)).alloc (.cells #[.func (.func 35) #[] #[.pointer (some ⟨w.heap.size, 0, none⟩), .pointer (some ⟨w1.heap.size + 1, 0, none⟩), .pointer (some ⟨w1.heap.size, 0, none⟩), .pointer (some ⟨w1.heap.size + 1 + 1, 0, none⟩), .pointer (some ⟨w1.heap.size + 1 + 1 + 1, 0, none⟩)]] 62) = w5 at *
   clear HE HWK
   refine HCALL.out.mono ?_
   rintro e w6 ⟨rfl, he6, hc6⟩
   have hb6 : Below w.heap.size w w6 := by
    have h := (HM.out.2.1.trans (HB5.out.mono HM.out.2.1.size))
    refine Chg.below h hc6 (Nat.le_trans HM.out.2.1.size HB5.out.size) (fun b hb => ?_)
    have := HM.out.2.1.size
    rcases hb with hb | hb <;> (dsimp only at hb; omega)
   have k1 : w6.cell? ⟨w1.heap.size + 1, 0, none⟩ = some (.int .i64 R.2.1) := he6.wr.cell 0
   have k2 : w6.cell? ⟨w1.heap.size + 1 + 1, 0, none⟩ = some (.int .i64 R.2.2) := he6.dp.cell 0
   have k3 : w6.cell? ⟨w.heap.size, 0, none⟩ = some (.slice A n c) := by rw [HN.out]; exact he6.t.cell 0
   have HB6 := zh hb6
   clear he6 hc6 hb6 HCALL HB5 HM HG
   obtain ⟨nx, wr, dp⟩ := R
   dsimp only at k1 k2 HC
   by_cases h1 : 0 <= wr
   . have d1 : decide (0 <= wr) = true := dqt h1
     have HC2 := zh (show r = (wr, 3) from by rw [HC.out, if_neg hlong, if_pos h1])
     go_wp2_with fail
     go_ret2
     rw [HC2.out]
     exact ⟨rfl, HB6.out⟩
   . have d1 : decide (0 <= wr) = false := dqf h1
     by_cases h2 : nx < n
     . have d2 : decide ((nx : Int) < (n : Int)) = true := dqt (by omega)
       have HC2 := zh (show r = (((nx : Nat) : Int), 3) from by rw [HC.out, if_neg hlong, if_neg h1, if_pos h2])
       go_wp2_with fail
       go_ret2
       rw [HC2.out]
       exact ⟨rfl, HB6.out⟩
     . have d2 : decide ((nx : Int) < (n : Int)) = false := dqf (by omega)
       by_cases h3 : 0 <= dp
       . have d3 : decide (0 <= dp) = true := dqt h3
         have HC2 := zh (show r = (dp, 2) from by rw [HC.out, if_neg hlong, if_neg h1, if_neg h2, if_pos h3])
         go_wp2_with fail
         go_ret2
         rw [HC2.out]
         exact ⟨rfl, HB6.out⟩
       . have d3 : decide (0 <= dp) = false := dqf h3
         have HC2 := zh (show r = (0, 0) from by rw [HC.out, if_neg hlong, if_neg h1, if_neg h2, if_neg h3])
         go_wp2_with fail
         go_ret2
         rw [HC2.out]
         exact ⟨rfl, HB6.out⟩
end Go.Proofs.YtbcadlocldplfaaDoor.T8
namespace Go.Proofs.YtbcadlocldplfaaDoor.T8
open Go.Proofs.Tryd
inductive Tr where
 | node (x : Tw) (ks : List Tr)
mutual
def Tr.flat : Tr -> List Tw
 | .node x ks => x :: flats ks
def flats : List Tr -> List Tw
 | [] => []
 | k :: ks => k.flat ++ flats ks
end
mutual
def Tr.depth : Tr -> Nat
 | .node _ ks => depths ks + 1
def depths : List Tr -> Nat
 | [] => 0
 | k :: ks => max k.depth (depths ks)
end
mutual
def Tr.ok (may : Nat -> Bool) : Tr -> Prop
 | .node x ks => fineB x may = true ∧ x.kids = (ks.length : Nat) ∧ oks x 0 ks
def oks (x : Tw) (i : Nat) : List Tr -> Prop
 | [] => True
 | k :: ks => k.ok (partOf x i) ∧ oks x (i + 1) ks
end
theorem flat_pos (t : Tr) : 0 < t.flat.length := by
 cases t; simp [Tr.flat]
theorem drop_head {α : Type} {l : List α} {at_ : Nat} {x : α} {r : List α} (h : l.drop at_ = x :: r) : l[at_]? = some x ∧ l.drop (at_ + 1) = r := by
 constructor
 . have h2 : (l.drop at_)[0]? = some x := by rw [h]; rfl
   rw [List.getElem?_drop] at h2
   exact h2
 . have h2 : (l.drop at_).drop 1 = r := by rw [h]; rfl
   rw [List.drop_drop] at h2
   exact h2
theorem drop_app {α : Type} {l : List α} {at_ : Nat} {a r : List α} (h : l.drop at_ = a ++ r) : l.drop (at_ + a.length) = r := by
 have h2 : (l.drop at_).drop a.length = r := by rw [h]; simp
 rw [List.drop_drop] at h2
 exact h2
theorem drop_len {α : Type} {l : List α} {at_ : Nat} {a : List α} (h : l.drop at_ = a) : l.length - at_ = a.length := by
 rw [<- h, List.length_drop]
section
variable {l : List Tw}
mutual
theorem wk_ok (l : List Tw) : ∀ (t : Tr) (f at_ lv : Nat) (may : Nat -> Bool) (dp : Int) (r : List Tw), t.ok may -> l.drop at_ = t.flat ++ r -> l.length <= at_ + f ->
 (wk f l at_ lv may dp).1 = at_ + t.flat.length ∧ (wk f l at_ lv may dp).2.1 = -1 ∧ (0 <= (wk f l at_ lv may dp).2.2 ↔ 0 <= dp ∨ 42 <= lv + t.depth)
 | .node x ks, f, at_, lv, may, dp, r, hok, hd, hf => by
  rw [Tr.ok] at hok
  rw [Tr.flat, List.cons_append] at hd
  have h1 := drop_head hd
  have hlt := (List.getElem?_eq_some_iff.1 h1.1).1
  cases f with
  | zero => omega
  | succ f =>
   unfold wk
   rw [h1.1]
   dsimp only
   rw [if_pos hok.1, show x.kids.toNat = ks.length from by rw [hok.2.1]; rfl]
   have h2 := wks_ok l ks f x 0 (at_ + 1) (lv + 1) (if 40 < lv ∧ dp < 0 then (at_ : Int) else dp) r hok.2.2 h1.2 (by omega)
   rw [Tr.flat, Tr.depth, lnc]
   refine ⟨by rw [h2.1]; omega, h2.2.1, ?_⟩
   rw [h2.2.2]
   by_cases hks : ks = []
   . rw [hks, show depths [] = 0 from rfl]
     split <;> simp <;> omega
   . simp only [hks, ne_eq, not_false_eq_true, and_true]
     split <;> omega
theorem wks_ok (l : List Tw) : ∀ (ks : List Tr) (f : Nat) (x : Tw) (i nx lv : Nat) (dp : Int) (r : List Tw), oks x i ks -> l.drop nx = flats ks ++ r -> l.length <= nx + f ->
 (wkL (wk f l) x lv ks.length i nx dp).1 = nx + (flats ks).length ∧ (wkL (wk f l) x lv ks.length i nx dp).2.1 = -1 ∧ (0 <= (wkL (wk f l) x lv ks.length i nx dp).2.2 ↔ 0 <= dp ∨ 42 <= lv + depths ks ∧ ks ≠ [])
 | [], f, x, i, nx, lv, dp, r, _, _, _ => by simp [wkL, flats]
 | k :: ks, f, x, i, nx, lv, dp, r, hok, hd, hf => by
  rw [oks] at hok
  rw [flats, List.append_assoc] at hd
  have h1 := wk_ok l k f nx lv (partOf x i) dp (flats ks ++ r) hok.1 hd hf
  rw [lnc, wkL, h1.2.1, if_neg (by omega), h1.1]
  have h2 := wks_ok l ks f x (i + 1) (nx + k.flat.length) lv (wk f l nx lv (partOf x i) dp).2.2 r hok.2 (drop_app hd) (by omega)
  refine ⟨by rw [h2.1, flats, lna]; omega, h2.2.1, ?_⟩
  rw [h2.2.2, h1.2.2, depths]
  have hk : 0 < k.depth := by cases k; simp [Tr.depth]
  have : ks = [] -> depths ks = 0 := fun h => by rw [h]; rfl
  by_cases hks : ks = []
  . rw [this hks, hks]; simp
    try omega
  . simp [hks]; omega
end
end
theorem wkL_back {l : List Tw} {f : Nat} (ih : ∀ (at_ lv : Nat) (may : Nat -> Bool) (dp : Int), at_ <= l.length -> (wk f l at_ lv may dp).2.1 < 0 -> ∃ t : Tr, t.ok may ∧ l.drop at_ = t.flat ++ l.drop (wk f l at_ lv may dp).1) (x : Tw) (lv : Nat) :
 ∀ (k i nx : Nat) (dp : Int), nx <= l.length -> (wkL (wk f l) x lv k i nx dp).2.1 < 0 -> ∃ ks : List Tr, ks.length = k ∧ oks x i ks ∧ l.drop nx = flats ks ++ l.drop (wkL (wk f l) x lv k i nx dp).1
 | 0, i, nx, dp, _, _ => ⟨[], rfl, by simp [oks], by simp [flats, wkL]⟩
 | k + 1, i, nx, dp, hnx, h => by
  unfold wkL at h |-
  split at h
  . rename_i h0; omega
  . rename_i h0
    rw [if_neg h0]
    obtain ⟨t, ht1, ht2⟩ := ih nx lv (partOf x i) dp hnx (by omega)
    have hle := wk_le f l nx lv (partOf x i) dp hnx
    obtain ⟨ks, hk1, hk2, hk3⟩ := wkL_back ih x lv k (i + 1) _ _ hle.2 h
    exact ⟨t :: ks, by simp [hk1], by rw [oks]; exact ⟨ht1, hk2⟩, by rw [flats, List.append_assoc, <- hk3]; exact ht2⟩
theorem wk_back (l : List Tw) : ∀ (f at_ lv : Nat) (may : Nat -> Bool) (dp : Int), at_ <= l.length -> (wk f l at_ lv may dp).2.1 < 0 -> ∃ t : Tr, t.ok may ∧ l.drop at_ = t.flat ++ l.drop (wk f l at_ lv may dp).1
 | 0, at_, lv, may, dp, _, h => by unfold wk at h; dsimp only at h; omega
 | f + 1, at_, lv, may, dp, hat, h => by
  unfold wk at h |-
  cases hx : l[at_]? with
  | none => rw [hx] at h; dsimp only at h; omega
  | some x =>
   rw [hx] at h
   dsimp only at h |-
   have hlt := (List.getElem?_eq_some_iff.1 hx).1
   cases hb : fineB x may
   . rw [hb] at h; simp at h; omega
   . rw [hb] at h
     rw [if_pos rfl] at h |-
     obtain ⟨ks, hk1, hk2, hk3⟩ := wkL_back (fun at_ lv may dp h1 h2 => wk_back l f at_ lv may dp h1 h2) x (lv + 1) x.kids.toNat 0 (at_ + 1) (if 40 < lv ∧ dp < 0 then (at_ : Int) else dp) (by omega) h
     refine ⟨.node x ks, ?_, ?_⟩
     . rw [Tr.ok]
       refine ⟨hb, ?_, hk2⟩
       have : 0 <= x.kids := by
        unfold fineB at hb
        split at hb
        . cases hb
        . simp at hb; omega
       omega
     . rw [Tr.flat, List.cons_append, <- hk3, List.drop_eq_getElem_cons hlt, (List.getElem?_eq_some_iff.1 hx).2]
def Right (l : List Tw) (t : Tr) : Prop := t.ok (fun _ => true) ∧ t.flat = l
theorem chk_right {l : List Tw} {t : Tr} (h : Right l t) (hl : l.length <= 2048) : (chk l).2 = if t.depth <= 40 then 0 else 2 := by
 have h1 := wk_ok l t l.length 0 1 (fun _ => true) (-1) [] h.1 (by rw [h.2]; simp) (by omega)
 rw [h.2] at h1
 unfold chk
 rw [if_neg (by omega), if_neg (by rw [h1.2.1]; omega), if_neg (by rw [h1.1]; omega)]
 by_cases hd : t.depth <= 40
 . rw [if_neg (by rw [h1.2.2]; omega), if_pos hd]
 . rw [if_pos (by rw [h1.2.2]; omega), if_neg hd]
theorem chk_wrong {l : List Tw} (h : ¬ ∃ t, Right l t) (hl : l.length <= 2048) : (chk l).2 = 3 := by
 unfold chk
 rw [if_neg (by omega)]
 by_cases h1 : 0 <= (wk l.length l 0 1 (fun _ => true) (-1)).2.1
 . rw [if_pos h1]
 . rw [if_neg h1]
   by_cases h2 : (wk l.length l 0 1 (fun _ => true) (-1)).1 < l.length
   . rw [if_pos h2]
   . exfalso
     obtain ⟨t, ht1, ht2⟩ := wk_back l l.length 0 1 (fun _ => true) (-1) (Nat.zero_le _) (by omega)
     refine h ⟨t, ht1, ?_⟩
     have e : l.drop (wk l.length l 0 1 (fun _ => true) (-1)).1 = [] := List.drop_of_length_le (by omega)
     rw [e, List.append_nil, List.drop_zero] at ht2
     exact ht2.symm
theorem chk_long {l : List Tw} (hl : 2048 < l.length) : (chk l).2 = 2 := by
 unfold chk
 rw [if_pos hl]
theorem chk_fine {l : List Tw} : (chk l).2 = 0 ↔ l.length <= 2048 ∧ ∃ t, Right l t ∧ t.depth <= 40 := by
 by_cases hl : 2048 < l.length
 . rw [chk_long hl]; constructor
   . intro h; cases h
   . intro h; omega
 . by_cases h : ∃ t, Right l t
   . obtain ⟨t, ht⟩ := h
     rw [chk_right ht (by omega)]
     constructor
     . intro h
       split at h
       . exact ⟨by omega, t, ht, by assumption⟩
       . cases h
     . rintro ⟨_, t', ht', hd⟩
       have e := chk_right ht' (by omega)
       rw [chk_right ht (by omega), if_pos hd] at e
       exact e
   . rw [chk_wrong h (by omega)]; constructor
     . intro h; cases h
     . rintro ⟨_, t, ht, _⟩; exact absurd ⟨t, ht⟩ h
end Go.Proofs.YtbcadlocldplfaaDoor.T8
namespace Go.Proofs.YtbcadlocldplfaaDoor.T8
open Go.Proofs.Tryd
set_option maxRecDepth 100000
open Go.RowKit
theorem flat_le : ∀ {ks : List Tr} {k : Tr}, k ∈ ks -> k.flat.length <= (flats ks).length
 | k0 :: ks, k, h => by
  rw [flats, lna]
  rcases List.mem_cons.1 h with rfl | h
  . omega
  . have := flat_le h; omega
theorem flat_mem : ∀ {ks : List Tr} {k : Tr}, k ∈ ks -> ∀ x ∈ k.flat, x ∈ flats ks
 | k0 :: ks, k, h, x, hx => by
  rw [flats, List.mem_append]
  rcases List.mem_cons.1 h with rfl | h
  . exact .inl hx
  . exact .inr (flat_mem h x hx)
theorem flats_append : ∀ a b : List Tr, flats (a ++ b) = flats a ++ flats b
 | [], b => by simp [flats]
 | k :: a, b => by rw [List.cons_append, flats, flats, flats_append a b, List.append_assoc]
theorem news_of_blk {w : World} {g : Nat} {t : TypeId} {xs : List Value} (h : w.heap[g]? = some (.cells xs.toArray t (0, 0))) : ∀ j u, xs[j]? = some u -> w.cell? ((⟨g, 0, none⟩ : Addr).add j) = some u := by
 intro j u hu
 rw [addr_add, Nat.zero_add, Blk.cell (show Blk w g t xs.toArray from h)]
 simpa using hu
def sliceLen : Value -> Nat
 | .slice _ n _ => n
 | _ => 0
theorem own_cap {w : World} {base : Nat} {e : TypeId} {size n c : Nat} {A : Option Addr} {xs : List Value} (h : w.ownsRow base e size (.slice A n c) n xs) : n <= c := by
 rcases h.2 with ⟨h1, h0⟩ | ⟨g, cap, cur, h1, _, _, hc, _⟩
 . injection h1 with h1 h2 h3
   omega
 . injection h1 with h1 h2 h3
   omega
mutual
def Tr.cok : Tr -> Prop
 | .node x ks => x.kids = (ks.length : Nat) ∧ coks ks
def coks : List Tr -> Prop
 | [] => True
 | k :: ks => k.cok ∧ coks ks
end
theorem len_flats : ∀ ks : List Tr, ks.length <= (flats ks).length
 | [] => Nat.zero_le _
 | k :: ks => by
  have h1 := len_flats ks
  have h2 := flat_pos k
  rw [flats, lna, lnc]
  omega
theorem coks_append : ∀ a b : List Tr, coks (a ++ b) ↔ coks a ∧ coks b
 | [], b => by simp [coks]
 | k :: a, b => by rw [List.cons_append, coks, coks, coks_append a b, and_assoc]
def ncells (l : List Nat) : List Value := l.map fun i => .int .i64 (i : Nat)
theorem ncells_append (l m : List Nat) : ncells (l ++ m) = ncells l ++ ncells m := by simp [ncells]
theorem ncells_length (l : List Nat) : (ncells l).length = l.length := by simp [ncells]
theorem Tryd.info3 : (prog.info? 3).map (fun i => (i.zero, i.size, i.bytes)) = some (some (.int .i64 0), 1, 8) := by kernel_rfl
theorem wpList_app_nat {ops : Array Oper} {rest : List Oper} {o : Oper} {a : Act} {W : World} {Q : Exit -> Act -> World -> Prop} (hgd : o.guard = none) (sl x : Operand)
 (ho : o.op = .call { callee := .builtin .append, args := #[sl, x], argTypes := #[99, 99] }) (base g n cap : Nat) (A : Option Addr) (l : List Nat) (s : Nat)
 (hs : a.eval sl = .slice A n cap) (hown : W.ownsRow base 3 1 (.slice A n cap) n (ncells l)) (hx : a.eval x = .slice (some ⟨g, 0, none⟩) 1 1)
 (hg : W.heap[g]? = some (.cells #[.int .i64 (s : Nat)] 3 (0, 0))) (hm : n <= 100000) (hb : base <= W.heap.size)
 (h : ∀ A' c' W', W'.ownsRow base 3 1 (.slice A' (n + 1) c') (n + 1) (ncells (l ++ [s])) -> W.grownBy W' (Value.slice A n cap).ownBlock -> wpList prog ops Q rest (a.put o.dst (.slice A' (n + 1) c')) W') :
 wpList prog ops Q (o :: rest) a W := by
 obtain ⟨i0, hi0, hz0, hz1, hz2⟩ := info_parts Tryd.info3
 refine wpList_append_own _ hgd sl x 99 ho base 3 i0 (.int .i64 0) 1 8 underlying99 hi0 hz0 hz1 hz2 rfl (by decide) (.slice A n cap) n (ncells l) hs hown ⟨g, 0, none⟩ 1 1 [.int .i64 (s : Nat)] hx rfl (news_of_blk hg) (by intro u hu; rw [List.mem_singleton] at hu; subst hu; rfl) (by unfold maxLen; omega) (by omega) hb ?_
 intro v3 w3 ho3 hg3 _
 obtain ⟨A3, c3, rfl, _⟩ := own_form ho3
 refine h A3 c3 w3 ?_ hg3
 rw [ncells_append]
 exact ho3
theorem refEnd_any (A : Option Addr) (c : Nat) (l : List Tw) (hlen : l.length <= 100000) : ∀ (N : Nat) (T : Tr) (at_ : Nat) (r : List Tw) (w : World), T.flat.length <= N -> T.cok -> l.drop at_ = T.flat ++ r -> RdW w A l ->
 Calls prog 102 #[.slice A l.length c, .int .i64 (at_ : Nat)] w fun e w' => e = .returned (.int .i64 ((at_ + T.flat.length : Nat) : Int)) ∧ w' = w := by
 intro N
 induction N with
 | zero => intro T at_ r w h; have := flat_pos T; omega
 | succ N ih =>
  intro T at_ r w hN hT hl hrd
  obtain ⟨x, ks⟩ := T
  rw [Tr.cok] at hT
  rw [Tr.flat, List.cons_append] at hl
  rw [Tr.flat, lnc] at hN
  have h1 := drop_head hl
  obtain ⟨n, hn⟩ := ex l.length
  have hatn : at_ < n := by rw [hn]; exact (List.getElem?_eq_some_iff.1 h1.1).1
  obtain ⟨b, off, rfl, hbl, hat⟩ : ∃ b off, A = some ⟨b, off, none⟩ ∧ b < w.heap.size ∧ ∀ k x, l[k]? = some x -> TwAt w b (off + k * 4) x := hrd.resolve_left (fun h => by rw [h] at h1; simp at h1)
  obtain ⟨c0, c1, c2, c3⟩ := hat at_ x h1.1
  rw [hT.1] at c1
  obtain ⟨z, hz⟩ := ex (at_ + (Tr.node x ks).flat.length)
  rw [<- hz]
  rw [Tr.flat, lnc] at hz
  have hfl : at_ + 1 + (flats ks).length <= n := by
   have h2 := drop_len h1.2
   rw [lna] at h2
   omega
  have HX := zh (ai h1.2 (ai hT.2 (ai hz hfl)))
  have HIH := zh ih
  have HR := zh hrd
  have HN := zh (ai hn hN)
  obtain ⟨q, hq⟩ := ex ks.length
  rw [<- hq] at c1
  have HQ := zh hq
  have hq9 : q <= 100000 := by have := len_flats ks; omega
  rw [<- hn] at hlen |-
  have a0 : (0 : Int) <= (at_ : Int) := by omega
  have a1 : (at_ : Int) < (n : Int) := by omega
  clear hN hT hl hrd h1 hn hbl hat hz ih hfl hq
  go_in
  go_wp2_with fail
  go_loopw [1, 6] (fun s1 s6 wr => wr = w ∧ ∃ i j : Nat, s6 = .int .i64 (i : Nat) ∧ s1 = .int .i64 (j : Nat) ∧ i <= q ∧ l.drop j = flats (ks.drop i) ++ r ∧ j + (flats (ks.drop i)).length = at_ + 1 + (flats ks).length) (fun _ s6 _ => q - (intOf s6).toNat)
  case atStart => exact ⟨rfl, 0, at_ + 1, rfl, by go_num, by omega, HX.out.1, rfl⟩
  case round =>
   obtain ⟨rfl, i, j, rfl, rfl, hi, hdr, hjl⟩ := hrel
   by_cases hlt : i < q
   . have hd1 : decide ((i : Int) < (q : Int)) = true := dqt (by omega)
     have hik : i < ks.length := by rw [<- HQ.out]; exact hlt
     have hkd : ks.drop i = ks[i] :: ks.drop (i + 1) := List.drop_eq_getElem_cons hik
     rw [hkd, flats] at hdr hjl
     rw [List.append_assoc] at hdr
     rw [lna] at hjl
     have hck : (ks[i]).cok := by
      have h := HX.out.2.1
      rw [<- List.take_append_drop i ks, coks_append, hkd, coks] at h
      exact h.2.1
     have HC := zh (HIH.out ks[i] j (flats (ks.drop (i + 1)) ++ r) wr (by have h2 := flat_le (List.getElem_mem hik); have := HN.out.2; omega) hck hdr HR.out)
     rw [<- HN.out.1] at HC
     have HJ := zh (ai (drop_app hdr) hjl)
     have hjb : j + (ks[i]).flat.length <= 100000 := by have := HX.out.2.2.2; omega
     generalize (ks[i]).flat.length = kl at *
     clear hkd hck hdr hjl hik
     go_wp2_with fail
     refine HC.out.mono ?_
     rintro e w2 ⟨rfl, hw2⟩
     rw [hw2]
     clear hw2 w2
     go_wp2_with fail
     go_roundw
     case rel => exact ⟨trivial, i + 1, j + kl, by go_num, rfl, by omega, HJ.out.1, by have := HJ.out.2; omega⟩
     case measure => simp [intOf]; omega
   . have hd1 : decide ((i : Int) < (q : Int)) = false := dqf (by omega)
     have hjz : j = z := by
      rw [List.drop_of_length_le (by rw [<- HQ.out]; omega)] at hjl
      have := HX.out.2.2.1
      simp [flats] at hjl
      omega
     subst hjz
     clear hdr hjl
     go_wp2_with fail
     go_ret
     exact ⟨rfl, rfl⟩
def posL (p : Nat) : List Tr -> List Nat
 | [] => []
 | k :: ks => p :: posL (p + k.flat.length) ks
theorem posL_snoc : ∀ (ks : List Tr) (p : Nat) (k : Tr), posL p (ks ++ [k]) = posL p ks ++ [p + (flats ks).length]
 | [], p, k => by simp [posL, flats]
 | k0 :: ks, p, k => by
  rw [List.cons_append, posL, posL, posL_snoc ks, flats, lna, List.cons_append, Nat.add_assoc]
theorem posL_length : ∀ (ks : List Tr) (p : Nat), (posL p ks).length = ks.length
 | [], _ => rfl
 | k :: ks, p => by rw [posL, lnc, lnc, posL_length ks]
theorem refKids_any (x : Tw) (ks : List Tr) (A : Option Addr) (c at_ : Nat) (l r : List Tw) (w : World) (hlen : l.length <= 100000) (hT : (Tr.node x ks).cok) (hl : l.drop at_ = (Tr.node x ks).flat ++ r) (hrd : RdW w A l) :
 Calls prog 66 #[.slice A l.length c, .int .i64 (at_ : Nat)] w fun e w' => (∃ A' c', e = .returned (.slice A' ks.length c') ∧ w'.ownsRow w.heap.size 3 1 (.slice A' ks.length c') ks.length (ncells (posL (at_ + 1) ks))) ∧ Below w.heap.size w w' := by
 rw [Tr.cok] at hT
 rw [Tr.flat, List.cons_append] at hl
 have h1 := drop_head hl
 obtain ⟨n, hn⟩ := ex l.length
 have hatn : at_ < n := by rw [hn]; exact (List.getElem?_eq_some_iff.1 h1.1).1
 obtain ⟨b, off, rfl, hbl, hat⟩ : ∃ b off, A = some ⟨b, off, none⟩ ∧ b < w.heap.size ∧ ∀ k x, l[k]? = some x -> TwAt w b (off + k * 4) x := hrd.resolve_left (fun h => by rw [h] at h1; simp at h1)
 have hfl : at_ + 1 + (flats ks).length <= n := by
  have h2 := drop_len h1.2
  rw [lna] at h2
  omega
 obtain ⟨q, hq⟩ := ex ks.length
 have HX := zh (ai h1.2 (ai hT.2 hfl))
 have HC1 : Hid (∀ W, Below w.heap.size w W -> W.cell? ⟨b, off + at_ * 4 + 1, none⟩ = some (.int .i64 (q : Nat))) := fun W hW => by
  have h := ((hat at_ x h1.1).of_block (hW.block b hbl)).2.1
  rw [hT.1, <- hq] at h
  exact h
 have HR := zh hrd
 have HN := zh hn
 have HQ := zh hq
 have hq9 : q <= 100000 := by have := len_flats ks; omega
 rw [<- hq]
 rw [<- hn] at hlen |-
 have a0 : (0 : Int) <= (at_ : Int) := by omega
 have a1 : (at_ : Int) < (n : Int) := by omega
 clear hT hl hrd h1 hn hbl hat hfl hq
 go_in
 go_wp2_with fail
 go_loopw [5, 6, 7] (fun s5 s6 s7 wr => ∃ (i j c1 : Nat) (A1 : Option Addr), s5 = .slice A1 i c1 ∧ s7 = .int .i64 (i : Nat) ∧ s6 = .int .i64 (j : Nat) ∧ i <= q ∧ j = at_ + 1 + (flats (ks.take i)).length ∧ wr.ownsRow w.heap.size 3 1 (.slice A1 i c1) i (ncells (posL (at_ + 1) (ks.take i))) ∧ Below w.heap.size w wr) (fun _ _ s7 _ => q - (intOf s7).toNat)
 case atStart => exact ⟨0, at_ + 1, 0, none, rfl, rfl, by go_num, by omega, by simp [flats], World.ownsRow_nil _ _ _ _, Below.refl _ w⟩
 case round =>
  obtain ⟨i, j, c1, A1, rfl, rfl, rfl, hi, hj, ho, hb⟩ := hrel
  have HO := zh (ai ho (ai hb hj))
  have k1 := HC1.out wr hb
  clear ho hb hj
  by_cases hlt : i < q
  . have hd1 : decide ((i : Int) < (q : Int)) = true := dqt (by omega)
    have hik : i < ks.length := by rw [<- HQ.out]; exact hlt
    have hkd : ks.drop i = ks[i] :: ks.drop (i + 1) := List.drop_eq_getElem_cons hik
    have hsp : flats ks = flats (ks.take i) ++ (ks[i].flat ++ flats (ks.drop (i + 1))) := by
     conv => lhs; rw [<- List.take_append_drop i ks, flats_append, hkd, flats]
    have hdr : l.drop j = ks[i].flat ++ (flats (ks.drop (i + 1)) ++ r) := by
     have h := HX.out.1
     rw [hsp, List.append_assoc, List.append_assoc] at h
     rw [HO.out.2.2]
     exact drop_app h
    have hck : (ks[i]).cok := by
     have h := HX.out.2.1
     rw [<- List.take_append_drop i ks, coks_append, hkd, coks] at h
     exact h.2.1
    have HC := zh (fun W (hW : Below w.heap.size w W) => refEnd_any (some ⟨b, off, none⟩) c l (by rw [<- HN.out]; exact hlen) (ks[i]).flat.length ks[i] j (flats (ks.drop (i + 1)) ++ r) W (nlr _) hck hdr (HR.out.below hW))
    rw [<- HN.out] at HC
    have HTK := zh (show posL (at_ + 1) (ks.take (i + 1)) = posL (at_ + 1) (ks.take i) ++ [j] ∧ (flats (ks.take (i + 1))).length = (flats (ks.take i)).length + (ks[i]).flat.length from by
     rw [List.take_succ_eq_append_getElem hik]
     refine ⟨by rw [posL_snoc, HO.out.2.2], by rw [flats_append, lna, flats, flats, List.append_nil]⟩)
    have hjb : j + (ks[i]).flat.length <= 100000 := by
     have h1 := HX.out.2.2
     rw [hsp, lna, lna] at h1
     have := HO.out.2.2
     omega
    generalize (ks[i]).flat.length = kl at *
    clear hkd hsp hdr hck hik
    go_wp2_with (at_builtin; refine wpList_app_nat rfl (.tmp 19) (.tmp 21) rfl w.heap.size wr.heap.size i c1 A1 (posL (at_ + 1) (ks.take i)) j rfl (HO.out.1.alloc _) rfl (heap_alloc_new wr _) (by omega) (by have := HO.out.2.1.size; simp; omega) ?_; intro A2 c2 w3 ho3 hg3; have H3 := zh (ai ho3 ((HO.out.2.1.alloc HO.out.2.1.size _).grown hg3 (by have := HO.out.2.1.size; simp; omega) (fun r hr => (World.ownsRow.lt HO.out.1 r hr).1))); clear ho3 hg3)
    refine (HC.out w3 H3.out.2).mono ?_
    rintro e w4 ⟨rfl, hw4⟩
    rw [hw4]
    clear hw4 w4
    go_wp2_with fail
    go_roundw
    case rel => exact ⟨i + 1, j + kl, c2, A2, rfl, by go_num, rfl, by omega, by rw [HTK.out.2, HO.out.2.2]; omega, by rw [HTK.out.1]; exact H3.out.1, H3.out.2⟩
    case measure => simp [intOf]; omega
  . have hd1 : decide ((i : Int) < (q : Int)) = false := dqf (by omega)
    have hiq : i = q := by omega
    have HF := zh (show posL (at_ + 1) (ks.take i) = posL (at_ + 1) ks from by rw [List.take_of_length_le (by rw [<- HQ.out]; omega)])
    subst hiq
    go_wp2_with fail
    go_ret
    refine ⟨⟨A1, c1, rfl, ?_⟩, HO.out.2.1⟩
    have h := HO.out.1
    rw [HF.out] at h
    exact h
end Go.Proofs.YtbcadlocldplfaaDoor.T8
namespace Go.Proofs.YtbcadlocldplfaaDoor.T8
open Go.Proofs.Tryd
structure Fr where
 op : Nat
 came : Nat
 n : Int
def closeF (f : Fr) : List Fr -> List Fr
 | [] => if (f.came : Int) = f.n then [] else [f]
 | g :: S => if (f.came : Int) = f.n then closeF { g with came := g.came + 1 } S else f :: g :: S
def partF (f : Fr) (op : Nat) : Bool :=
 match formOf f.op with
 | none => false
 | some x => prtB x.prt f.came f.n.toNat op
def mayF : List Fr -> Nat -> Bool
 | [], _ => true
 | f :: _, op => partF f op
def rrun : List Tw -> Nat -> List Fr -> Int -> Option (List Fr × Int)
 | [], _, S, dp => some (S, dp)
 | x :: l, i, S, dp =>
  if (0 < i ∧ S = []) ∨ fineB x (mayF S) = false then none
  else rrun l (i + 1) (closeF ⟨x.op, 0, x.kids⟩ S) (if dp < 0 ∧ 40 <= S.length then (i : Int) else dp)
theorem rrun_append : ∀ (a b : List Tw) (i : Nat) (S : List Fr) (dp : Int), rrun (a ++ b) i S dp = (rrun a i S dp).bind fun r => rrun b (i + a.length) r.1 r.2
 | [], b, i, S, dp => rfl
 | x :: a, b, i, S, dp => by
  rw [List.cons_append, rrun, rrun]
  split
  . rfl
  . rw [rrun_append a b, lnc, show i + 1 + a.length = i + (a.length + 1) from by omega]
def bump : List Fr -> List Fr
 | [] => []
 | f :: S => closeF { f with came := f.came + 1 } S
theorem closeF_done {f : Fr} (h : (f.came : Int) = f.n) (S : List Fr) : closeF f S = bump S := by
 cases S with
 | nil => rw [closeF, if_pos h]; rfl
 | cons g S => rw [closeF, if_pos h]; rfl
theorem closeF_open {f : Fr} (h : (f.came : Int) ≠ f.n) (S : List Fr) : closeF f S = f :: S := by
 cases S with
 | nil => rw [closeF, if_neg h]
 | cons g S => rw [closeF, if_neg h]
mutual
theorem rrun_tree : ∀ (t : Tr) (i : Nat) (S : List Fr) (dp : Int), t.ok (mayF S) -> (i = 0 ∨ S ≠ []) ->
 ∃ dp', rrun t.flat i S dp = some (bump S, dp') ∧ (0 <= dp' ↔ 0 <= dp ∨ 41 <= S.length + t.depth)
 | .node x ks, i, S, dp, hok, hi => by
  rw [Tr.ok] at hok
  rw [Tr.flat, rrun, Tr.depth]
  rw [if_neg (by
   rw [hok.1]
   rintro (h | h)
   . rcases hi with h2 | h2
     . omega
     . exact h2 h.2
   . cases h)]
  by_cases hks : ks = []
  . subst hks
    refine ⟨if dp < 0 ∧ 40 <= S.length then (i : Int) else dp, ?_, ?_⟩
    . rw [flats, rrun, closeF_done (by rw [hok.2.1]; rfl)]
    . rw [depths]
      split <;> omega
  . have hlen : 0 < ks.length := List.length_pos_iff.2 hks
    rw [closeF_open (by rw [hok.2.1]; simp; omega)]
    obtain ⟨dp', h1, h2⟩ := rrun_forest ks x 0 S (i + 1) (if dp < 0 ∧ 40 <= S.length then (i : Int) else dp) hok.2.2 (by rw [hok.2.1]; simp) hks (by omega)
    refine ⟨dp', h1, ?_⟩
    rw [h2]
    split <;> omega
theorem rrun_forest : ∀ (ks : List Tr) (x : Tw) (j : Nat) (S : List Fr) (i : Nat) (dp : Int), oks x j ks -> x.kids = (j : Int) + (ks.length : Nat) -> ks ≠ [] -> 0 < i ->
 ∃ dp', rrun (flats ks) i (⟨x.op, j, x.kids⟩ :: S) dp = some (bump S, dp') ∧ (0 <= dp' ↔ 0 <= dp ∨ 41 <= S.length + 1 + depths ks)
 | [], _, _, _, _, _, _, _, h, _ => absurd rfl h
 | k :: ks, x, j, S, i, dp, hok, hn, _, hi => by
  rw [oks] at hok
  have hmay : mayF (⟨x.op, j, x.kids⟩ :: S) = partOf x j := rfl
  obtain ⟨d1, h1, h2⟩ := rrun_tree k i (⟨x.op, j, x.kids⟩ :: S) dp (by rw [hmay]; exact hok.1) (.inr (by simp))
  rw [flats, rrun_append, h1, depths]
  show ∃ dp', rrun (flats ks) (i + k.flat.length) (closeF ⟨x.op, j + 1, x.kids⟩ S) d1 = _ ∧ _
  rw [lnc] at hn h2
  by_cases hks : ks = []
  . subst hks
    rw [closeF_done (by dsimp only; simp at hn |-; omega), flats, rrun]
    refine ⟨d1, rfl, ?_⟩
    rw [h2, depths]
    omega
  . have hlen : 0 < ks.length := List.length_pos_iff.2 hks
    rw [closeF_open (by dsimp only; omega)]
    obtain ⟨d2, h3, h4⟩ := rrun_forest ks x (j + 1) S (i + k.flat.length) d1 hok.2 (by omega) hks (by omega)
    refine ⟨d2, h3, ?_⟩
    rw [h4, h2]
    omega
end
theorem oks_snoc : ∀ (ds : List Tr) (x : Tw) (i : Nat) (t : Tr), oks x i ds -> t.ok (partOf x (i + ds.length)) -> oks x i (ds ++ [t])
 | [], x, i, t, _, h => by
  simp only [List.nil_append, oks, and_true]
  simpa using h
 | d :: ds, x, i, t, h, ht => by
  rw [oks] at h
  rw [List.cons_append, oks]
  refine ⟨h.1, oks_snoc ds x (i + 1) t h.2 ?_⟩
  rw [lnc] at ht
  rw [show i + 1 + ds.length = i + (ds.length + 1) from by omega]
  exact ht
inductive Exp : List Fr -> List Tw -> Prop
 | nil : Exp [] []
 | cons {S : List Fr} {pre : List Tw} {x : Tw} {ds : List Tr} : Exp S pre -> fineB x (mayF S) = true -> oks x 0 ds -> (ds.length : Int) < x.kids -> Exp (⟨x.op, ds.length, x.kids⟩ :: S) (pre ++ x :: flats ds)
theorem close_exp : ∀ {S : List Fr} {pre : List Tw}, Exp S pre -> ∀ {x : Tw} {ds : List Tr}, fineB x (mayF S) = true -> oks x 0 ds -> (ds.length : Int) <= x.kids ->
 Exp (closeF ⟨x.op, ds.length, x.kids⟩ S) (pre ++ x :: flats ds) ∨ (closeF ⟨x.op, ds.length, x.kids⟩ S = [] ∧ ∃ t, Right (pre ++ x :: flats ds) t) := by
 intro S pre h
 induction h with
 | nil =>
  intro x ds hf ho hn
  by_cases he : (ds.length : Int) = x.kids
  . right
    refine ⟨by rw [closeF, if_pos he], .node x ds, ?_, ?_⟩
    . rw [Tr.ok]; exact ⟨hf, he.symm, ho⟩
    . rw [Tr.flat]; rfl
  . left
    rw [closeF, if_neg he]
    exact .cons .nil hf ho (by omega)
 | @cons S2 pre2 y es h2 hfy hoy hny ih =>
  intro x ds hf ho hn
  by_cases he : (ds.length : Int) = x.kids
  . rw [closeF, if_pos he]
    have ht : (Tr.node x ds).ok (partOf y (0 + es.length)) := by
     rw [Tr.ok, Nat.zero_add]
     exact ⟨hf, he.symm, ho⟩
    have h3 := ih (x := y) (ds := es ++ [.node x ds]) hfy (oks_snoc es y 0 _ hoy ht) (by simp; omega)
    rw [lna, lnc, lnn, flats_append, flats, flats, Tr.flat, List.append_nil] at h3
    have e : pre2 ++ y :: (flats es ++ x :: flats ds) = pre2 ++ y :: flats es ++ x :: flats ds := by simp
    rw [e] at h3
    exact h3
  . left
    rw [closeF, if_neg he]
    exact .cons (.cons h2 hfy hoy hny) hf ho (by omega)
theorem fine_kids {x : Tw} {may : Nat -> Bool} (h : fineB x may = true) : 0 <= x.kids := by
 unfold fineB at h
 split at h
 . cases h
 . simp at h; omega
theorem rrun_back : ∀ (l : List Tw) (i : Nat) (S : List Fr) (dp : Int) (pre : List Tw), (Exp S pre ∧ (S = [] -> i = 0) ∨ 0 < i ∧ S = [] ∧ ∃ t, Right pre t) -> ∀ {dp' : Int}, rrun l i S dp = some ([], dp') -> (l = [] ∧ i = 0 ∧ pre = []) ∨ ∃ t, Right (pre ++ l) t
 | [], i, S, dp, pre, h, dp', hr => by
  rw [rrun] at hr
  injection hr with hr
  have hS : S = [] := (Prod.mk.inj hr).1
  rcases h with ⟨h1, h2⟩ | ⟨_, _, h3⟩
  . subst hS
    cases h1
    exact .inl ⟨rfl, h2 rfl, rfl⟩
  . right; rw [List.append_nil]; exact h3
 | x :: l, i, S, dp, pre, h, dp', hr => by
  rw [rrun] at hr
  split at hr
  . cases hr
  . rename_i hc
    have hfin : fineB x (mayF S) = true := by
     cases hb : fineB x (mayF S)
     . exact absurd (.inr hb) hc
     . rfl
    rcases h with ⟨h1, h2⟩ | ⟨h1, h2, _⟩
    . have h3 := close_exp h1 (x := x) (ds := []) hfin (by simp [oks]) (fine_kids hfin)
      have h4 := rrun_back l (i + 1) (closeF ⟨x.op, 0, x.kids⟩ S) _ (pre ++ [x]) (by
       rcases h3 with h3 | h3
       . by_cases he : closeF ⟨x.op, 0, x.kids⟩ S = []
         . have h5 : Exp [] (pre ++ [x]) := by
            have := h3
            rw [show closeF ⟨x.op, ([] : List Tr).length, x.kids⟩ S = [] from he] at this
            exact this
           generalize hq : pre ++ [x] = q at h5
           cases h5
           simp at hq
         . exact .inl ⟨h3, fun h => absurd h he⟩
       . exact .inr ⟨by omega, h3.1, h3.2⟩) hr
      rcases h4 with ⟨_, h5, _⟩ | h4
      . omega
      . right
        rw [List.append_assoc] at h4
        exact h4
    . exact absurd (.inl ⟨h1, h2⟩) hc
def refE (l : List Tw) : Int :=
 if 2048 < l.length then 2
 else match rrun l 0 [] (-1) with
  | none => 3
  | some (S, dp) => if l = [] ∨ S ≠ [] then 3 else if 0 <= dp then 2 else 0
theorem refE_chk (l : List Tw) : refE l = (chk l).2 := by
 unfold refE
 by_cases hlen : 2048 < l.length
 . rw [if_pos hlen, chk_long hlen]
 . rw [if_neg hlen]
   by_cases h : ∃ t, Right l t
   . obtain ⟨t, ht⟩ := h
     obtain ⟨dp', h1, h2⟩ := rrun_tree t 0 [] (-1) ht.1 (.inl rfl)
     rw [ht.2] at h1
     rw [h1, chk_right ht (by omega)]
     have hne : l ≠ [] := by
      intro h3
      have := flat_pos t
      rw [ht.2, h3] at this
      simp at this
     show (if l = [] ∨ bump [] ≠ [] then (3 : Int) else if 0 <= dp' then 2 else 0) = _
     rw [if_neg (by
      rintro (h3 | h3)
      . exact hne h3
      . exact h3 rfl)]
     simp at h2
     by_cases hd : t.depth <= 40
     . rw [if_neg (by rw [h2]; omega), if_pos hd]
     . rw [if_pos (by rw [h2]; omega), if_neg hd]
   . rw [chk_wrong h (by omega)]
     cases hr : rrun l 0 [] (-1) with
     | none => rfl
     | some r =>
      obtain ⟨S, dp⟩ := r
      dsimp only
      by_cases hc : l = [] ∨ S ≠ []
      . rw [if_pos hc]
      . exfalso
        have hS : S = [] := Classical.byContradiction fun h => hc (.inr h)
        subst hS
        rcases rrun_back l 0 [] (-1) [] (.inl ⟨.nil, fun _ => rfl⟩) hr with ⟨h1, _⟩ | h1
        . exact hc (.inl h1)
        . exact h h1
end Go.Proofs.YtbcadlocldplfaaDoor.T8
namespace Go.Proofs.YtbcadlocldplfaaDoor.T8
open Go.Proofs.Tryd
set_option maxRecDepth 100000
open Go.RowKit
def fcell (f : Fr) : List Value := [.int .u8 (f.op : Nat), .int .i64 (f.came : Nat), .int .i64 f.n]
def fcells (S : List Fr) : List Value := S.flatMap fcell
theorem fcells_append (l m : List Fr) : fcells (l ++ m) = fcells l ++ fcells m := by simp [fcells]
theorem fcells_length (l : List Fr) : (fcells l).length = l.length * 3 := by
 induction l with
 | nil => rfl
 | cons x l ih => unfold fcells at ih |-; rw [List.flatMap_cons, lna, ih, lnc]; simp [fcell]; omega
theorem Tryd.info95 : (prog.info? 95).map (fun i => (i.zero, i.size, i.bytes)) = some (some (.agg #[.int .u8 0, .int .i64 0, .int .i64 0]), 3, 24) := by kernel_rfl
theorem wpList_app_open {ops : Array Oper} {rest : List Oper} {o : Oper} {a : Act} {W : World} {Q : Exit -> Act -> World -> Prop} (hgd : o.guard = none) (sl x : Operand)
 (ho : o.op = .call { callee := .builtin .append, args := #[sl, x], argTypes := #[92, 92] }) (base g n cap : Nat) (A : Option Addr) (l : List Fr) (f : Fr)
 (hs : a.eval sl = .slice A n cap) (hown : W.ownsRow base 95 3 (.slice A n cap) n (fcells l)) (hx : a.eval x = .slice (some ⟨g, 0, none⟩) 1 1)
 (hg : W.heap[g]? = some (.cells #[.int .u8 (f.op : Nat), .int .i64 (f.came : Nat), .int .i64 f.n] 95 (0, 0))) (hm : n <= 100000) (hb : base <= W.heap.size)
 (h : ∀ A' c' W', W'.ownsRow base 95 3 (.slice A' (n + 1) c') (n + 1) (fcells (l ++ [f])) -> W.grownBy W' (Value.slice A n cap).ownBlock -> wpList prog ops Q rest (a.put o.dst (.slice A' (n + 1) c')) W') :
 wpList prog ops Q (o :: rest) a W := by
 obtain ⟨i0, hi0, hz0, hz1, hz2⟩ := info_parts Tryd.info95
 refine wpList_append_own _ hgd sl x 92 ho base 95 i0 (.agg #[.int .u8 0, .int .i64 0, .int .i64 0]) 3 24 underlying92 hi0 hz0 hz1 hz2 rfl (by decide) (.slice A n cap) n (fcells l) hs hown ⟨g, 0, none⟩ 1 1 (fcell f) hx rfl (news_of_blk hg) (by intro u hu; simp only [fcell, List.mem_cons, List.not_mem_nil, or_false] at hu; rcases hu with rfl | rfl | rfl <;> rfl) (by unfold maxLen; omega) (by omega) hb ?_
 intro v3 w3 ho3 hg3 _
 obtain ⟨A3, c3, rfl, _⟩ := own_form ho3
 refine h A3 c3 w3 ?_ hg3
 rw [fcells_append]
 have e : fcells [f] = fcell f := by simp [fcells]
 rw [e]
 exact ho3
theorem fcells_last {S : List Fr} {f : Fr} {j : Nat} {v : Value} (hv : (fcell f)[j]? = some v) : (fcells (f :: S).reverse)[S.length * 3 + j]? = some v := by
 rw [List.reverse_cons, fcells_append, List.getElem?_append_right (by rw [fcells_length, List.length_reverse]; omega), fcells_length, List.length_reverse, Nat.add_sub_cancel_left]
 simpa [fcells] using hv
theorem fcells_came {S : List Fr} {f : Fr} {k : Nat} : (fcells (f :: S).reverse).set (S.length * 3 + 1) (.int .i64 (k : Nat)) = fcells ({ f with came := k } :: S).reverse := by
 rw [List.reverse_cons, List.reverse_cons, fcells_append, fcells_append, List.set_append_right _ _ (by rw [fcells_length, List.length_reverse]; omega), fcells_length, List.length_reverse, Nat.add_sub_cancel_left]
 rfl
def close1 : List Fr -> List Fr
 | [] => []
 | f :: S => closeF f S
def VF (S : List Fr) : Prop := (∀ f ∈ S, f.op < 256 ∧ ∃ x n, formOf f.op = some x ∧ f.n = (n : Nat) ∧ n <= x.most ∧ f.came <= n) ∧ ∀ f ∈ S.tail, (f.came : Int) < f.n
def Top1 : List Fr -> Prop
 | [] => True
 | f :: _ => (f.came : Int) ≠ f.n
theorem vf_strict {S : List Fr} (h : VF S) (ht : Top1 S) : ∀ f ∈ S, (f.came : Int) < f.n := by
 intro f hf
 cases S with
 | nil => cases hf
 | cons g S =>
  rcases List.mem_cons.1 hf with rfl | hf
  . obtain ⟨x, n, h1, h2, h3, h4⟩ := (h.1 f (List.mem_cons_self ..)).2
    have h5 : (f.came : Int) ≠ f.n := ht
    omega
  . exact h.2 f hf
theorem close1_done {S : List Fr} (h : Top1 S) : close1 S = S := by
 cases S with
 | nil => rfl
 | cons f S => exact closeF_open h S
theorem close1_step {f g : Fr} {S : List Fr} (h : (f.came : Int) = f.n) : close1 (f :: g :: S) = close1 ({ g with came := g.came + 1 } :: S) := by
 show closeF f (g :: S) = closeF { g with came := g.came + 1 } S
 rw [closeF, if_pos h]
theorem fineB_split (x : Tw) (P : Nat -> Bool) : fineB x P = (fineB x (fun _ => true) && P x.op) := by
 unfold fineB
 split
 . rfl
 . rename_i f _
   rw [Bool.true_and]
   cases P x.op <;> simp
theorem fine_fr {x : Tw} {P : Nat -> Bool} (h : fineB x P = true) : ∃ f n, formOf x.op = some f ∧ x.kids = (n : Nat) ∧ n <= f.most := by
 unfold fineB at h
 split at h
 . cases h
 . rename_i f hf
   simp at h
   exact ⟨f, x.kids.toNat, hf, by omega, by omega⟩
theorem refExpr_any (op : Nat) (w : World) (h : op < 256) : Calls prog 29 #[.int .u8 (op : Nat)] w fun e w' => e = .returned (.bool (exprB op)) ∧ w' = w := by
 have HC : Hid (exprB op = decide (20 <= op ∧ op <= 26 ∨ 30 <= op ∧ op <= 48 ∨ 50 <= op ∧ op <= 57)) := rfl
 rcases (by omega : op < 20 ∨ (20 <= op ∧ op <= 26) ∨ (27 <= op ∧ op <= 29) ∨ (30 <= op ∧ op <= 48) ∨ op = 49 ∨ (50 <= op ∧ op <= 57) ∨ 58 <= op) with h1 | h1 | h1 | h1 | h1 | h1 | h1
 case inr.inr.inr.inr.inl =>
  subst h1
  go_in
  go_wp2_with fail
  go_ret
  exact ⟨rfl, rfl⟩
 all_goals
  go_in
  go_wp2_with fail
  go_ret
  refine ⟨ret_bool ?_, rfl⟩
  rw [HC.out]
  first | (rw [decide_eq_decide]; omega) | (symm; rw [decide_eq_true_iff]; omega) | (symm; rw [decide_eq_false_iff_not]; omega) | (rw [Bool.eq_iff_iff]; simp only [Bool.or_eq_true, decide_eq_true_eq]; omega)
theorem refStmt_any (op : Nat) (w : World) (h : op < 256) : Calls prog 95 #[.int .u8 (op : Nat)] w fun e w' => e = .returned (.bool (stmtB op)) ∧ w' = w := by
 have HC : Hid (stmtB op = decide (4 <= op ∧ op <= 11)) := rfl
 rcases (by omega : op < 4 ∨ (4 <= op ∧ op <= 11) ∨ 12 <= op) with h1 | h1 | h1
 all_goals
  go_in
  go_wp2_with fail
  go_ret
  refine ⟨ret_bool ?_, rfl⟩
  rw [HC.out]
  first | (rw [decide_eq_decide]; omega) | (symm; rw [decide_eq_false_iff_not]; omega)
end Go.Proofs.YtbcadlocldplfaaDoor.T8
