/- Contract of the reader's left: one level of signs. And what follows from it. -/
import Derived.Test.YtbcadlocldplfaaDoorQra
set_option linter.unusedSimpArgs false
set_option linter.unusedVariables false
namespace Go.Proofs.YtbcadlocldplfaaDoor
open Go.RowKit
def FReads (fid : FuncId) (first cap : Array Value) (g size : Nat) (w : World) (f : List Tz → Pr (List Tw)) : Prop :=
  ∀ l lg W, Chg (fun k => k = g) w W → RdM W g l size lg → f l ≠ .out → Calls Tryd.prog fid (first ++ cap) W (PPost W g size lg (f l))
theorem FReads.chg {fid : FuncId} {first cap : Array Value} {g size : Nat} {w w' : World} {f : List Tz → Pr (List Tw)} (h : FReads fid first cap g size w f) (hc : Chg (fun k => k = g) w w') : FReads fid first cap g size w' f :=
  fun l lg W hW => h l lg W (hc.trans hW)
def budOf (w : World) (g : Nat) : Nat := match w.cell? ⟨g, 0, none⟩ with
  | some (.slice _ n _) => n
  | _ => 0
theorem RdM.bud {w : World} {g size : Nat} {l : List Tz} {lg : Bool} (h : RdM w g l size lg) : budOf w g = l.length := by
  obtain ⟨A, c, h1, _⟩ := h
  unfold budOf
  rw [show w.cell? ⟨g, 0, none⟩ = some (.slice A l.length c) from h1.cell 0]
theorem PtM.two {B0 b : Nat} {w : World} {A B : Option Addr} {c d : Nat} {t u : List Tw} (hb : Blk w b 23 #[.slice A t.length c, .slice B u.length d]) (hB : B0 ≤ b) (h1 : RdT B0 w A t) (h2 : RdT B0 w B u) : PtM B0 w (some ⟨b, 0, none⟩) [t, u] := by
  refine ⟨fun a ha => by obtain rfl := Option.some.inj ha; exact hB, .inr ⟨b, 0, rfl, hb.lt, fun i x hx => ?_⟩⟩
  match i, hx with
  | 0, hx =>
    obtain rfl : t = x := by simpa using hx
    exact ⟨A, c, hb.cell 0, h1⟩
  | 1, hx =>
    obtain rfl : u = x := by simpa using hx
    exact ⟨B, d, hb.cell 1, h2⟩
  | i + 2, hx => simp at hx
theorem PtM.one {B0 b : Nat} {w : World} {A : Option Addr} {c : Nat} {t : List Tw} (hb : Blk w b 23 #[.slice A t.length c]) (hB : B0 ≤ b) (h1 : RdT B0 w A t) : PtM B0 w (some ⟨b, 0, none⟩) [t] := by
  refine ⟨fun a ha => by obtain rfl := Option.some.inj ha; exact hB, .inr ⟨b, 0, rfl, hb.lt, fun i x hx => ?_⟩⟩
  match i, hx with
  | 0, hx =>
    obtain rfl : t = x := by simpa using hx
    exact ⟨A, c, hb.cell 0, h1⟩
  | i + 1, hx => simp at hx
theorem find_at {l : List Tz} {sg : List UInt8} {op : Nat} {v : List (List UInt8 × Nat)} {i : Nat} (hp : v[i]? = some (sg, op)) (hT : isT sg l = true) (hno : ∀ j p, j < i → v[j]? = some p → isT p.1 l = false) : v.find? (fun p => isT p.1 l) = some (sg, op) := by
  obtain ⟨h1, h2⟩ := List.getElem?_eq_some_iff.1 hp
  rw [List.find?_eq_some_iff_getElem]
  refine ⟨hT, i, h1, h2, fun j hj => ?_⟩
  rw [hno j _ hj (List.getElem?_eq_getElem (Nat.lt_trans hj h1))]
  rfl
def LvF (b5 sb ob vn : Nat) (v : List (List UInt8 × Nat)) (W : World) : Prop := Blk W b5 114 #[.slice (some ⟨sb, 0, none⟩) vn vn, .slice (some ⟨ob, 0, none⟩) vn vn] ∧ Blk W ob 5 (v.map fun p => Value.int .u8 (p.2 : Nat)).toArray
theorem leftP_some {f : List Tz → Pr (List Tw)} {v : List (List UInt8 × Nat)} {once : Bool} {m : Nat} {t : List Tw} {l : List Tz} {p : List UInt8 × Nat} (h : v.find? (fun p => isT p.1 l) = some p) :
    leftP f v once (m + 1) t l = (f l.tail).bind fun u l1 => (ofP (tw p.2) [t, u] l1).bind fun t2 l2 => if once then .ok t2 l2 false else leftP f v once m t2 l2 := by
  conv => lhs; rw [leftP]
  rw [h]
theorem leftP_none {f : List Tz → Pr (List Tw)} {v : List (List UInt8 × Nat)} {once : Bool} {m : Nat} {t : List Tw} {l : List Tz} (h : v.find? (fun p => isT p.1 l) = none) :
    leftP f v once (m + 1) t l = .ok t l false := by
  rw [leftP, h]
set_option maxRecDepth 100000 in
set_option maxHeartbeats 16000000 in
theorem left_any (fid : FuncId) (first cap : Array Value) (f : List Tz → Pr (List Tw)) (v : List (List UInt8 × Nat)) (once : Bool) (N : Nat) (g size : Nat) (l : List Tz) (lg : Bool) (sb ob : Nat) (w : World)
    (hcf : ∀ (args : Array Value) (W : World), (callFunc fid args).run Tryd.prog W = .ok (.enter fid args) W)
    (hdo : FReads fid first cap g size w f) (hlen : ∀ l t l' m, f l = .ok t l' m → t.length ≤ 2048 ∧ l'.length ≤ l.length) (hr : RdM w g l size lg)
    (hsb : Blk w sb 9 (v.map fun p => .string (bs p.1)).toArray) (hob : Blk w ob 5 (v.map fun p => Value.int .u8 (p.2 : Nat)).toArray) (hsg : sb ≠ g) (hog : ob ≠ g) (hvb : v.length ≤ 100)
    (hR : (f l).bind (leftP f v once N) ≠ .out) :
    Calls Tryd.prog 76 #[gp g, .agg #[.slice (some ⟨sb, 0, none⟩) v.length v.length, .slice (some ⟨ob, 0, none⟩) v.length v.length], .func (.func fid) first cap, .bool once] w (PPost w g size lg ((f l).bind (leftP f v once N))) := by
  obtain ⟨vn, hvn⟩ : ∃ n, n = v.length := ⟨_, rfl⟩
  obtain ⟨R, hRR⟩ : ∃ R, R = (f l).bind (leftP f v once N) := ⟨_, rfl⟩
  have HH := Lib.hid (And.intro hdo (And.intro hlen (And.intro hr (And.intro hvn (And.intro hRR hR)))))
  rw [← hRR, ← hvn]
  rw [← hvn] at hvb
  obtain ⟨b5, hb5⟩ : ∃ b, b = w.heap.size := ⟨_, rfl⟩
  obtain ⟨w1, hw1⟩ : ∃ z, z = w.alloc (.cells #[.slice (some ⟨sb, 0, none⟩) vn vn, .slice (some ⟨ob, 0, none⟩) vn vn] 114) := ⟨_, rfl⟩
  have H1 : Hid (Blk w1 b5 114 #[.slice (some ⟨sb, 0, none⟩) vn vn, .slice (some ⟨ob, 0, none⟩) vn vn] ∧ Blk w1 sb 9 (v.map fun p => .string (bs p.1)).toArray ∧ Blk w1 ob 5 (v.map fun p => Value.int .u8 (p.2 : Nat)).toArray ∧ Below w.heap.size w w1 ∧ b5 ≠ g ∧ sb ≠ g ∧ ob ≠ g ∧ w.heap.size ≤ b5) := Lib.hid (by
    subst hw1
    exact ⟨by rw [hb5]; exact Blk.new w _ _, hsb.alloc _, hob.alloc _, (Below.refl _ _).alloc (Nat.le_refl _) _, by have := hr.lt; omega, hsg, hog, by omega⟩)
  obtain ⟨r1, hr1⟩ : ∃ r, r = f l := ⟨_, rfl⟩
  have HD : Hid (Calls Tryd.prog fid (first ++ cap) w1 (PPost w1 g size lg r1)) := Lib.hid (by rw [hr1]; exact HH.out.1 l lg w1 (Chg.of_below H1.out.2.2.2.1) (HH.out.2.2.1.below H1.out.2.2.2.1) (bind_out HH.out.2.2.2.2.2))
  have HR1 := Lib.hid hr1
  have H0 := Lib.hid (And.intro H1.out.2.2.2.2.1 (And.intro hsg hog))
  clear hdo hlen hr hvn hRR hR hsb hob hsg hog hr1
  go_enter Tryd.func76, Tryd.ntmps76
  go_upto_region 1 with fail
  rw [← hw1, ← hb5]
  clear hw1 hb5
  go_wp2_with fail
  refine HD.out.mono ?_
  rintro e w2 ⟨hc2, hp2⟩
  have HC2 : Hid (Chg (fun k => k = g) w w2) := Lib.hid ((Chg.of_below H1.out.2.2.2.1).trans hc2)
  clear HD
  cases r1 with
  | out => exact hp2.elim
  | bad l' =>
    unfold thrown at hp2
    subst hp2
    have HE : Hid (R = .bad l') := Lib.hid (by rw [HH.out.2.2.2.2.1, ← HR1.out]; rfl)
    go_wp2_with fail
    refine ⟨rfl, HC2.out, ?_⟩
    rw [HE.out]
    rfl
  | ok t l1 m1 =>
    obtain ⟨A, c, rfl, ho2, hr2⟩ := hp2
    have HL1 := Lib.hid (HH.out.2.1 l t l1 m1 HR1.out.symm)
    have H2 : Hid (Blk w2 b5 114 #[.slice (some ⟨sb, 0, none⟩) vn vn, .slice (some ⟨ob, 0, none⟩) vn vn] ∧ Blk w2 sb 9 (v.map fun p => .string (bs p.1)).toArray ∧ Blk w2 ob 5 (v.map fun p => Value.int .u8 (p.2 : Nat)).toArray ∧ w2.ownsRow w.heap.size 42 4 (.slice A t.length c) t.length (rowOf twcell t) ∧ RdM w2 g l1 size (lg || m1)) := Lib.hid (by
      have hs2 : w.heap.size ≤ w1.heap.size := H1.out.2.2.2.1.size
      exact ⟨H1.out.1.chg hc2 H1.out.2.2.2.2.1, H1.out.2.1.chg hc2 H1.out.2.2.2.2.2.1, H1.out.2.2.1.chg hc2 H1.out.2.2.2.2.2.2.1, own_mono ho2 hs2, hr2⟩)
    have HE : Hid ((leftP f v once N t l1).add m1 = R) := Lib.hid (by rw [HH.out.2.2.2.2.1, ← HR1.out]; rfl)
    obtain ⟨tl, htl⟩ : ∃ z, z = t.length := ⟨_, rfl⟩
    rw [← htl] at H2 ⊢
    have HTL := Lib.hid htl
    clear ho2 hr2 H1 htl hc2
    go_wp2_with fail
    go_loopw [9] (fun s9 wr => ∃ (m : Nat) (t : List Tw) (tl : Nat) (l' : List Tz) (lm : Bool) (A : Option Addr) (c : Nat), s9 = .slice A tl c ∧ tl = t.length ∧ t.length ≤ 2048 ∧ (leftP f v once m t l').add lm = R ∧ wr.ownsRow w.heap.size 42 4 (.slice A tl c) tl (rowOf twcell t) ∧ RdM wr g l' size (lg || lm) ∧ Chg (fun k => k = g) w wr ∧ Blk wr b5 114 #[.slice (some ⟨sb, 0, none⟩) vn vn, .slice (some ⟨ob, 0, none⟩) vn vn] ∧ Blk wr sb 9 (v.map fun p => .string (bs p.1)).toArray ∧ Blk wr ob 5 (v.map fun p => Value.int .u8 (p.2 : Nat)).toArray) (fun _ wr => budOf wr g)
    case atStart => exact ⟨N, t, tl, l1, m1, A, c, rfl, HTL.out, HL1.out.1, HE.out, H2.out.2.2.2.1, H2.out.2.2.2.2, HC2.out, H2.out.1, H2.out.2.1, H2.out.2.2.1⟩
    case round =>
      clear H2 HTL HE HL1 HC2 HR1
      obtain ⟨m, t2, tl2, l2, lm, A2, c2, rfl, htl2, ht2048, hE, ho, hr, hc, hk5, hks, hko⟩ := hrel
      obtain ⟨wo, rfl⟩ : ∃ wo : World, wo = wr := ⟨_, rfl⟩
      cases m with
      | zero => exact absurd hE.symm (by rw [HH.out.2.2.2.2.1]; exact HH.out.2.2.2.2.2)
      | succ m =>
        have HW := Lib.hid (And.intro htl2 (And.intro ho (And.intro hr (And.intro hc (And.intro hk5 (And.intro hks (And.intro hko (And.intro hE ht2048))))))))
        have k50 : wo.cell? ⟨b5, 0, none⟩ = some (.slice (some ⟨sb, 0, none⟩) vn vn) := hk5.cell 0
        have htl3 : tl2 ≤ 2048 := by omega
        clear htl2 ho hr hc hk5 hks hko hE ht2048
        go_wp2_with fail
        go_loopw [9, 10, 18] (fun s9 s10 s18 wi => ∃ i : Nat, s9 = .slice A2 tl2 c2 ∧ s10 = .bool false ∧ s18 = .int .i64 (i : Nat) ∧ i ≤ vn ∧ (∀ j p, j < i → v[j]? = some p → isT p.1 l2 = false) ∧ RdM wi g l2 size (lg || lm) ∧ Chg (fun k => k = g) wo wi) (fun _ _ s18 _ => vn - (intOf s18).toNat)
        case atStart => exact ⟨0, rfl, rfl, rfl, by omega, fun j p hj => by omega, HW.out.2.2.1, Chg.refl _ _⟩
        case round =>
          clear k50
          obtain ⟨i, rfl, rfl, rfl, hi, hno, hri, hci⟩ := hrel
          have HI := Lib.hid (And.intro hno (And.intro hri hci))
          clear hno hri hci
          by_cases hlt : i < vn
          · have di : decide ((i : Int) < (vn : Int)) = true := decide_eq_true (by omega)
            obtain ⟨p, hp⟩ : ∃ p, v[i]? = some p := ⟨_, List.getElem?_eq_getElem (by have := HH.out.2.2.2.1; omega)⟩
            obtain ⟨sg, op⟩ := p
            have ks : wr.cell? ⟨sb, i, none⟩ = some (.string (bs sg)) := by
              rw [(HW.out.2.2.2.2.2.1.chg HI.out.2.2 H0.out.2.1).cell i, List.getElem?_toArray, List.getElem?_map, hp]
              rfl
            have HP := Lib.hid hp
            clear hp
            have n0 : (0 : Int) ≤ (i : Int) := by omega
            have n1 : (i : Int) < (vn : Int) := by omega
            have HA := Lib.hid (has_any sg g size l2 (lg || lm) wr HI.out.2.1)
            obtain ⟨ssg, hssg⟩ : ∃ z, z = bs sg := ⟨_, rfl⟩
            rw [← hssg] at HA ks
            clear hssg
            cases hT : isT sg l2 with
            | false =>
              rw [hT] at HA
              have HT := Lib.hid hT
              clear hT
              go_wp2_with fail
              refine HA.out.mono ?_
              rintro e w3 ⟨rfl, hr3, hc3⟩
              have H3 := Lib.hid (And.intro hr3 hc3)
              clear hr3 hc3
              go_wp2_with fail
              go_roundw
              case rel =>
                refine ⟨i + 1, rfl, rfl, by go_num, by omega, fun j q hj hq => ?_, H3.out.1, HI.out.2.2.trans H3.out.2⟩
                rcases Nat.lt_or_ge j i with h | h
                · exact HI.out.1 j q h hq
                · obtain rfl : j = i := by omega
                  rw [HP.out] at hq
                  obtain rfl := Option.some.inj hq
                  exact HT.out
              case measure => simp [intOf]; omega
            | true =>
              rw [hT] at HA
              have HT := Lib.hid hT
              clear hT
              go_wp2_with fail
              refine HA.out.mono ?_
              rintro e w3 ⟨rfl, hr3, hc3⟩
              have H3 := Lib.hid (And.intro hr3 hc3)
              clear hr3 hc3
              go_wp2_with fail
              have HE : Hid (((f l2.tail).bind fun u l1 => (ofP (tw op) [t2, u] l1).bind fun t3 l3 => if once then .ok t3 l3 false else leftP f v once m t3 l3).add lm = R) := Lib.hid (by
                rw [← HW.out.2.2.2.2.2.2.2.1]
                rw [leftP_some (find_at HP.out HT.out HI.out.1)])
              obtain ⟨ru, hru⟩ : ∃ r, r = f l2.tail := ⟨_, rfl⟩
              rw [← hru] at HE
              have HRU := Lib.hid hru
              have hne : f l2.tail ≠ .out := by
                rw [← hru]
                rintro rfl
                exact HH.out.2.2.2.2.2 (HH.out.2.2.2.2.1.symm.trans HE.out.symm)
              clear hru
              have HC3 : Hid (Chg (fun k => k = g) w w3.drew ∧ Chg (fun k => k = g) wo w3.drew ∧ RdM w3.drew g l2.tail size (lg || lm)) := Lib.hid ⟨HW.out.2.2.2.1.trans (HI.out.2.2.trans H3.out.2.drew), HI.out.2.2.trans H3.out.2.drew, H3.out.1⟩
              have HD : Hid (Calls Tryd.prog fid (first ++ cap) w3.drew (PPost w3.drew g size (lg || lm) ru)) := Lib.hid (by rw [HRU.out]; exact HH.out.1 _ _ _ HC3.out.1 HC3.out.2.2 hne)
              have HF3 : Hid (Blk w3.drew b5 114 #[.slice (some ⟨sb, 0, none⟩) vn vn, .slice (some ⟨ob, 0, none⟩) vn vn] ∧ Blk w3.drew ob 5 (v.map fun p => Value.int .u8 (p.2 : Nat)).toArray) := Lib.hid ⟨HW.out.2.2.2.2.1.chg HC3.out.2.1 H0.out.1, HW.out.2.2.2.2.2.2.1.chg HC3.out.2.1 H0.out.2.2⟩
              have hq1 : ∀ W, Blk W ob 5 (v.map fun p => Value.int .u8 (p.2 : Nat)).toArray → W.cell? ⟨ob, i, none⟩ = some (.int .u8 (op : Nat)) := fun W hW => by
                rw [hW.cell i, List.getElem?_toArray, List.getElem?_map, HP.out]
                rfl
              have HQ1 := Lib.hid hq1
              clear hne hq1
              refine wp_region_planP (.q 0 (.q 1 (.q 2 (.q 3 (.q 4 (.q 5 (.q 6 (.q 7 (.q 8 (.a1 9 (.a1 10 (.a1 11 (.q 12 .fin))))))))))))) 11 (LvF b5 sb ob vn v) (by kernel_rfl) rfl (by kernel_rfl) HF3.out (by intro c a w d v h; cases d <;> exact h) ?_
              refine wpPlan_q rfl rfl rfl ?_; intro K hK
              go_big_quiet_op
              first | go_big_quiet_on | (refine ⟨_, fun _ _ => rfl, ?_⟩; go_big_quiet_on)
              refine wpPlan_q rfl rfl rfl ?_; intro K hK
              go_big_quiet_op
              first | go_big_quiet_on | (refine ⟨_, fun _ _ => rfl, ?_⟩; go_big_quiet_on)
              refine wpPlan_q rfl rfl rfl ?_; intro K hK
              refine ⟨.slice (some ⟨ob, 0, none⟩) vn vn, fun W hW => ?_, ?_⟩
              · have q0 := hW.1.cell 1
                unfold Oper.quietAt Oper.quietUpon
                simp [go_sem, q0]
              refine hK _ ?_
              clear hK K
              try simp only [Act.put, List.setIfInBounds_toArray, List.set_cons_succ, List.set_cons_zero]
              refine wpPlan_q rfl rfl rfl ?_; intro K hK
              go_big_quiet_op
              first | go_big_quiet_on | (refine ⟨_, fun _ _ => rfl, ?_⟩; go_big_quiet_on)
              refine wpPlan_q rfl rfl rfl ?_; intro K hK
              refine ⟨.pointer (some ⟨ob, i, none⟩), fun W hW => ?_, ?_⟩
              · have q0 := n0
                unfold Oper.quietAt Oper.quietUpon
                simp [go_sem, q0, n1]
              refine hK _ ?_
              clear hK K
              try simp only [Act.put, List.setIfInBounds_toArray, List.set_cons_succ, List.set_cons_zero]
              refine wpPlan_q rfl rfl rfl ?_; intro K hK
              refine ⟨.int .u8 (op : Nat), fun W hW => ?_, ?_⟩
              · have q0 := HQ1.out W hW.2
                unfold Oper.quietAt Oper.quietUpon
                simp [go_sem, q0]
              refine hK _ ?_
              clear hK K
              try simp only [Act.put, List.setIfInBounds_toArray, List.set_cons_succ, List.set_cons_zero]
              refine wpPlan_q rfl rfl rfl ?_; intro K hK
              go_big_quiet_op
              first | go_big_quiet_on | (refine ⟨_, fun _ _ => rfl, ?_⟩; go_big_quiet_on)
              refine wpPlan_q rfl rfl rfl ?_; intro K hK
              go_big_quiet_op
              first | go_big_quiet_on | (refine ⟨_, fun _ _ => rfl, ?_⟩; go_big_quiet_on)
              refine wpPlan_q rfl rfl rfl ?_; intro K hK
              go_big_quiet_op
              first | go_big_quiet_on | (refine ⟨_, fun _ _ => rfl, ?_⟩; go_big_quiet_on)
              refine wpPlan_act true rfl rfl rfl ?_; intro K hK
              go_simp
              refine HD.out.mono ?_
              rintro e w4 ⟨hc4, hp4⟩
              cases ru with
              | out => exact hp4.elim
              | bad l' =>
                unfold thrown at hp4
                subst hp4
                have hfin : PPost w g size lg R (.panicked [{ v := wrongV (faultAt size l'), recovered := false }]) w4 := ⟨HC3.out.1.trans hc4, by
                  rw [← HE.out]
                  rfl⟩
                exact And.intro rfl hfin
              | ok u l3 m3 =>
                obtain ⟨A4, c4, rfl, ho4, hr4⟩ := hp4
                have HL := Lib.hid (HH.out.2.1 _ _ _ _ HRU.out.symm)
                obtain ⟨ul, hul⟩ : ∃ z, z = u.length := ⟨_, rfl⟩
                rw [← hul] at ho4 ⊢
                have HC4 : Hid (Chg (fun k => k = g) w w4 ∧ Chg (fun k => k = g) wo w4) := Lib.hid ⟨HC3.out.1.trans hc4, HC3.out.2.1.trans hc4⟩
                have HF4 : Hid (LvF b5 sb ob vn v w4) := Lib.hid ⟨HF3.out.1.chg hc4 H0.out.1, HF3.out.2.chg hc4 H0.out.2.2⟩
                have HO4 : Hid (RdT w.heap.size w4 A4 u ∧ RdT w.heap.size w4 A2 t2 ∧ RdM w4 g l3 size ((lg || lm) || m3)) := Lib.hid ⟨RdT.of_own ho4 hul HC3.out.1.size, (RdT.of_own (B0 := w.heap.size) HW.out.2.1 HW.out.1 (Nat.le_refl _)).chg HC4.out.2 (fun k _ hk => by have := HH.out.2.2.1.lt; have hk2 : k = g := hk; omega), hr4⟩
                have HUL := Lib.hid hul
                clear hc4 ho4 hr4 hul
                refine hK _ _ (fun _ => HF4.out) ?_
                clear hK K
                try simp only [Act.put, List.setIfInBounds_toArray, List.set_cons_succ, List.set_cons_zero]
                have HC5 : Hid (Chg (fun k => k = g) w (w4.alloc (.cells #[.slice A2 tl2 c2, .slice A4 ul c4] 23)) ∧ Chg (fun k => k = g) wo (w4.alloc (.cells #[.slice A2 tl2 c2, .slice A4 ul c4] 23)) ∧ LvF b5 sb ob vn v (w4.alloc (.cells #[.slice A2 tl2 c2, .slice A4 ul c4] 23))) := Lib.hid ⟨HC4.out.1.alloc _, HC4.out.2.alloc _, HF4.out.1.alloc _, HF4.out.2.alloc _⟩
                have HOF : Hid (Calls Tryd.prog 74 #[gp g, .agg #[.int .u8 (op : Nat), .int .i64 0, .int .i64 0, .string ⟨#[]⟩], .slice (some ⟨w4.heap.size, 0, none⟩) 2 2] (w4.alloc (.cells #[.slice A2 tl2 c2, .slice A4 ul c4] 23)) (PPost (w4.alloc (.cells #[.slice A2 tl2 c2, .slice A4 ul c4] 23)) g size ((lg || lm) || m3) (ofP (tw op) [t2, u] l3))) := Lib.hid (by
                  have hpt : PtM w.heap.size (w4.alloc (.cells #[.slice A2 tl2 c2, .slice A4 ul c4] 23)) (some ⟨w4.heap.size, 0, none⟩) [t2, u] := by
                    refine PtM.two (c := c2) (d := c4) ?_ HC4.out.1.size (HO4.out.2.1.below ((Below.refl _ _).alloc (Nat.le_refl _) _)) (HO4.out.1.below ((Below.refl _ _).alloc (Nat.le_refl _) _))
                    rw [← HUL.out, ← HW.out.1]
                    exact Blk.new w4 _ _
                  exact of_any (tw op) g size l3 _ w.heap.size _ 2 [t2, u] _ (HO4.out.2.2.below ((Below.refl _ _).alloc (Nat.le_refl _) _)) HH.out.2.2.1.lt hpt (by simp) (fun t ht => by
                    simp only [List.mem_cons, List.not_mem_nil, or_false] at ht
                    rcases ht with rfl | rfl
                    · exact HW.out.2.2.2.2.2.2.2.2
                    · exact HL.out.1))
                obtain ⟨t5, m5, h5, hl5⟩ := ofP_ok (tw op) [t2, u] l3
                rw [h5] at HOF
                have H5 := Lib.hid (And.intro h5 hl5)
                clear h5 hl5
                refine wpPlan_act true rfl rfl rfl ?_; intro K hK
                go_simp
                refine hK _ _ (fun _ => HC5.out.2.2) ?_
                clear hK K
                try simp only [Act.put, List.setIfInBounds_toArray, List.set_cons_succ, List.set_cons_zero]
                refine wpPlan_act false rfl rfl rfl ?_; intro K hK
                go_simp
                refine HOF.out.mono ?_
                rintro e w5 ⟨hc5, A5, c5, rfl, ho5, hr5⟩
                have H6 : Hid (Chg (fun k => k = g) w w5 ∧ Chg (fun k => k = g) wo w5 ∧ RdM w5 g l3 size (((lg || lm) || m3) || m5) ∧ w5.ownsRow w.heap.size 42 4 (.slice A5 t5.length c5) t5.length (rowOf twcell t5)) := Lib.hid ⟨HC5.out.1.trans hc5, HC5.out.2.1.trans hc5, hr5, own_mono ho5 HC5.out.1.size⟩
                obtain ⟨tl5, htl5⟩ : ∃ z, z = t5.length := ⟨_, rfl⟩
                rw [← htl5] at H6 ⊢
                have HT5 := Lib.hid htl5
                clear hc5 ho5 hr5 HOF htl5
                refine hK _ _ (fun h => by cases h) ?_
                clear hK K
                try simp only [Act.put, List.setIfInBounds_toArray, List.set_cons_succ, List.set_cons_zero]
                refine wpPlan_p rfl rfl rfl ?_; intro K hK
                go_big_quiet_op
                first | go_big_quiet_on | (refine ⟨_, fun _ _ => rfl, ?_⟩; go_big_quiet_on)
                refine wpPlan_endP ?_
                cases once with
                | true =>
                  have HE2 : Hid (R = .ok t5 l3 (lm || (m3 || (m5 || false)))) := Lib.hid (by
                    rw [← HE.out]
                    rw [Pr.bind_ok, H5.out.1]
                    rfl)
                  go_wp2_with fail
                  go_ret
                  refine ⟨H6.out.1, ?_⟩
                  rw [HE2.out]
                  refine ⟨A5, c5, by rw [← HT5.out]; rfl, by rw [← HT5.out]; exact H6.out.2.2.2, ?_⟩
                  have := H6.out.2.2.1
                  simpa [Bool.or_assoc] using this
                | false =>
                  have HE2 : Hid ((leftP f v false m t5 l3).add (lm || (m3 || m5)) = R) := Lib.hid (by
                    rw [← HE.out]
                    rw [Pr.bind_ok, H5.out.1]
                    show _ = Pr.add lm (Pr.add m3 (Pr.add m5 (leftP f v false m t5 l3)))
                    rw [Pr.add_add, Pr.add_add, Bool.or_assoc])
                  go_wp2_with fail
                  go_roundw
                  case rel =>
                    refine ⟨m, t5, tl5, l3, (lm || (m3 || m5)), A5, c5, rfl, HT5.out, H5.out.2, HE2.out, H6.out.2.2.2, ?_, H6.out.1, HW.out.2.2.2.2.1.chg H6.out.2.1 H0.out.1, HW.out.2.2.2.2.2.1.chg H6.out.2.1 H0.out.2.1, HW.out.2.2.2.2.2.2.1.chg H6.out.2.1 H0.out.2.2⟩
                    have := H6.out.2.2.1
                    simpa [Bool.or_assoc] using this
                  case measure =>
                    rw [H6.out.2.2.1.bud, HW.out.2.2.1.bud]
                    have h1 := HL.out.2
                    have h2 := isT_len HT.out
                    omega
          · have di : decide ((i : Int) < (vn : Int)) = false := decide_eq_false (by omega)
            obtain rfl : i = vn := by omega
            have hnone : v.find? (fun p => isT p.1 l2) = none := by
              rw [List.find?_eq_none]
              intro p hp
              obtain ⟨j, hj, rfl⟩ := List.mem_iff_getElem.1 hp
              rw [HI.out.1 j _ (by have := HH.out.2.2.2.1; omega) (List.getElem?_eq_getElem hj)]
              decide
            have HE2 : Hid (R = .ok t2 l2 lm) := Lib.hid (by
              rw [← HW.out.2.2.2.2.2.2.2.1, leftP_none hnone]
              show Pr.ok t2 l2 (lm || false) = _
              rw [Bool.or_false])
            have HC3 := Lib.hid (HW.out.2.2.2.1.trans HI.out.2.2)
            have HO3 : Hid (wr.ownsRow w.heap.size 42 4 (.slice A2 tl2 c2) tl2 (rowOf twcell t2)) := Lib.hid (own_chg HW.out.2.1 HI.out.2.2 (fun gg hgg hk => by have := (World.ownsRow.lt HW.out.2.1 gg hgg).1; have := HH.out.2.2.1.lt; have hk2 : gg = g := hk; omega))
            clear hnone
            go_wp2_with fail
            go_ret
            refine ⟨HC3.out, ?_⟩
            rw [HE2.out]
            exact ⟨A2, c2, by rw [← HW.out.1]; rfl, by rw [← HW.out.1]; exact HO3.out, HI.out.2.1⟩
theorem Chg.thn {w w' w'' : World} {T T' : Nat → Prop} (h : Chg T w w') (k : Chg T' w' w'') (hT : ∀ i, i < w.heap.size → T' i → T i) : Chg T w w'' :=
  ⟨k.os.trans h.os, k.tape.trans h.tape, k.output.trans h.output, Nat.le_trans h.size k.size, fun i hi hn => (k.block i (Nat.lt_of_lt_of_le hi h.size) (fun e => hn (hT i hi e))).trans (h.block i hi hn)⟩
def TsR (B0 : Nat) (w : World) (A : Option Addr) (n c : Nat) (ts : List (List Tw)) : Prop :=
  n = ts.length ∧ ∃ vs, w.ownsRow B0 23 1 (.slice A n c) n vs ∧ ∀ (i : Nat) (t : List Tw), ts[i]? = some t → ∃ (B : Option Addr) (d : Nat), vs[i]? = some (Value.slice B t.length d) ∧ RdT B0 w B t ∧ ∀ a, B = some a → (Value.slice A n c).ownBlock ≠ some a.block ∧ a.block < w.heap.size
theorem TsR.nil (B0 : Nat) (w : World) : TsR B0 w none 0 0 [] := ⟨rfl, [], World.ownsRow_nil _ _ _ _, fun i t h => by simp at h⟩
theorem TsR.chg {B0 n c : Nat} {w w' : World} {A : Option Addr} {ts : List (List Tw)} {T : Nat → Prop} (h : TsR B0 w A n c ts) (hc : Chg T w w') (hT : ∀ k, k < w.heap.size → T k → k < B0) : TsR B0 w' A n c ts := by
  obtain ⟨h1, vs, h2, h3⟩ := h
  refine ⟨h1, vs, ?_, fun i t ht => ?_⟩
  · exact own_chg (T := fun k => k < w.heap.size ∧ T k) h2 (hc.old (fun k a b => ⟨a, b⟩)) (fun g hg hk => by have := (World.ownsRow.lt h2 g hg).1; have := hT _ hk.1 hk.2; omega)
  · obtain ⟨B, d, h4, h5, h6⟩ := h3 i t ht
    exact ⟨B, d, h4, h5.chg hc hT, fun a ha => ⟨(h6 a ha).1, Nat.lt_of_lt_of_le (h6 a ha).2 hc.size⟩⟩
theorem TsR.below {B0 n c : Nat} {w w' : World} {A : Option Addr} {ts : List (List Tw)} (h : TsR B0 w A n c ts) (hb : Below w.heap.size w w') : TsR B0 w' A n c ts := h.chg (T := fun _ => False) (.of_below hb) (fun _ _ h => h.elim)
theorem TsR.ptm {B0 n c : Nat} {w : World} {A : Option Addr} {ts : List (List Tw)} (h : TsR B0 w A n c ts) : PtM B0 w A ts := by
  obtain ⟨h1, vs, h2, h3⟩ := h
  rcases Nat.eq_zero_or_pos n with h0 | h0
  · refine ⟨fun a ha => ?_, .inl (List.eq_nil_of_length_eq_zero (by omega))⟩
    subst ha
    exact (World.ownsRow.lt h2 a.block rfl).1
  · obtain ⟨g, cap, hv, hb, hlt⟩ := h2.form h0
    have hA : A = some ⟨g, 0, none⟩ := by injection hv
    subst hA
    refine ⟨fun a ha => by obtain rfl := Option.some.inj ha; exact hb, .inr ⟨g, 0, rfl, hlt, fun i t ht => ?_⟩⟩
    obtain ⟨B, d, h4, h5, _⟩ := h3 i t ht
    have := h2.cells (g := g) rfl i _ h4
    rw [addr_add] at this
    exact ⟨B, d, this, h5⟩
theorem TsR.mono {B0 B1 n c : Nat} {w : World} {A : Option Addr} {ts : List (List Tw)} (h : TsR B0 w A n c ts) (hB : B1 ≤ B0) : TsR B1 w A n c ts := by
  obtain ⟨h1, vs, h2, h3⟩ := h
  refine ⟨h1, vs, own_mono h2 hB, fun i t ht => ?_⟩
  obtain ⟨B, d, h4, h5, h6⟩ := h3 i t ht
  exact ⟨B, d, h4, h5.mono hB, h6⟩
theorem Tryd.info23 : (Tryd.prog.info? 23).map (fun i => (i.zero, i.size, i.bytes)) = some (some (.slice none 0 0), 1, 24) := by kernel_rfl
theorem wp_app_tree {o : Oper} {a : Act} {W : World} {K : Act → World → Prop} {Q : Exit → Act → World → Prop} (sl x : Operand)
    (ho : o.op = .call { callee := .builtin .append, args := #[sl, x], argTypes := #[108, 108] }) (B0 g n c : Nat) (A : Option Addr) (ts : List (List Tw)) (B : Option Addr) (d : Nat) (t : List Tw)
    (hs : a.eval sl = .slice A n c) (hown : TsR B0 W A n c ts) (hx : a.eval x = .slice (some ⟨g, 0, none⟩) 1 1)
    (hg : W.heap[g]? = some (.cells #[.slice B t.length d] 23 (0, 0))) (ht : RdT B0 W B t) (hne : ∀ a, B = some a → (Value.slice A n c).ownBlock ≠ some a.block ∧ a.block < W.heap.size) (hm : n ≤ 100000) (hb : B0 ≤ W.heap.size)
    (h : ∀ A' c' W', TsR B0 W' A' (n + 1) c' (ts ++ [t]) → W.grownBy W' (Value.slice A n c).ownBlock → K (a.put o.dst (.slice A' (n + 1) c')) W') :
    o.wp Tryd.prog a W K Q := by
  obtain ⟨i0, hi0, hz0, hz1, hz2⟩ := info_parts Tryd.info23
  obtain ⟨h1, vs, h2, h3⟩ := hown
  have hgs : g < W.heap.size := (Array.getElem?_eq_some_iff.1 hg).1
  have hrd : Reads W W.heap.size 1 (some ⟨g, 0, none⟩) 1 [Value.slice B t.length d] := ⟨rfl, fun _ => ⟨_, rfl, hgs, fun j u hu => by
    rw [addr_add, Nat.zero_add]
    exact (cell_of_row W g j _ 23 (0, 0) hg).trans (by simpa using hu)⟩⟩
  refine wp_append_any _ sl x 108 ho B0 23 i0 (.slice none 0 0) 1 24 Tryd.underlying108 hi0 hz0 hz1 hz2 rfl (by decide) (.slice A n c) n vs hs h2 W.heap.size (some ⟨g, 0, none⟩) 1 1 [Value.slice B t.length d] hx hrd (by intro u hu; rw [List.mem_singleton] at hu; subst hu; rfl) (by unfold maxLen; omega) (by omega) hb ?_
  · intro v3 w3 ho3 hg3 hown3
    obtain ⟨A3, c3, rfl, _⟩ := own_form ho3
    have hch : Chg (fun k => (Value.slice A n c).ownBlock = some k) W w3 := .of_grown hg3 (fun r hr => hr)
    have key : ∀ (B : Option Addr) (t : List Tw), RdT B0 W B t → (∀ a, B = some a → (Value.slice A n c).ownBlock ≠ some a.block) → RdT B0 w3 B t := fun B t hr hn => by
      refine ⟨?_, hr.2⟩
      exact hr.1.chg hch (fun a ha _ hk => hn a ha hk)
    have hvs : vs.length = n := by rw [h2.1, Nat.mul_one]
    have hfar : ∀ (B : Option Addr) (t : List Tw), RdL twcell 4 W B t → (∀ a, B = some a → (Value.slice A n c).ownBlock ≠ some a.block ∧ a.block < W.heap.size) → ∀ a, B = some a → (Value.slice A3 (n + 1) c3).ownBlock ≠ some a.block := fun B t _ hn a ha he => by
      rcases hown3 with h5 | h5
      · exact (hn a ha).1 (h5.symm.trans he)
      · rw [h5] at he
        have := (hn a ha).2
        have := Option.some.inj he
        omega
    refine h A3 c3 w3 ⟨by rw [List.length_append, ← h1]; rfl, _, ho3, fun i u hu => ?_⟩ hg3
    rw [List.getElem?_append] at hu ⊢
    rcases Nat.lt_or_ge i ts.length with hi | hi
    · rw [if_pos hi] at hu
      obtain ⟨B', d', h4, h5, h6⟩ := h3 i u hu
      rw [if_pos (by omega)]
      exact ⟨B', d', h4, key B' u h5 (fun a ha => (h6 a ha).1), fun a ha => ⟨hfar B' u h5.1 h6 a ha, Nat.lt_of_lt_of_le (h6 a ha).2 hch.size⟩⟩
    · rw [if_neg (by omega)] at hu ⊢
      have hi0 : i - ts.length = 0 := by
        rcases Nat.eq_zero_or_pos (i - ts.length) with h | h
        · exact h
        · rw [List.getElem?_eq_none (by simp; omega)] at hu; cases hu
      rw [hi0] at hu
      obtain rfl : t = u := by simpa using hu
      rw [show i - vs.length = 0 by omega]
      exact ⟨B, d, rfl, key B t ht (fun a ha => (hne a ha).1), fun a ha => ⟨hfar B t ht.1 hne a ha, Nat.lt_of_lt_of_le (hne a ha).2 hch.size⟩⟩
theorem wpList_app_tree {ops : Array Oper} {rest : List Oper} {o : Oper} {a : Act} {W : World} {Q : Exit → Act → World → Prop} (hgd : o.guard = none) (sl x : Operand)
    (ho : o.op = .call { callee := .builtin .append, args := #[sl, x], argTypes := #[108, 108] }) (B0 g n c : Nat) (A : Option Addr) (ts : List (List Tw)) (B : Option Addr) (d : Nat) (t : List Tw)
    (hs : a.eval sl = .slice A n c) (hown : TsR B0 W A n c ts) (hx : a.eval x = .slice (some ⟨g, 0, none⟩) 1 1)
    (hg : W.heap[g]? = some (.cells #[.slice B t.length d] 23 (0, 0))) (ht : RdT B0 W B t) (hne : ∀ a, B = some a → (Value.slice A n c).ownBlock ≠ some a.block ∧ a.block < W.heap.size) (hm : n ≤ 100000) (hb : B0 ≤ W.heap.size)
    (h : ∀ A' c' W', TsR B0 W' A' (n + 1) c' (ts ++ [t]) → W.grownBy W' (Value.slice A n c).ownBlock → wpList Tryd.prog ops Q rest (a.put o.dst (.slice A' (n + 1) c')) W') :
    wpList Tryd.prog ops Q (o :: rest) a W :=
  wpList_plain hgd fun _ hK => wp_app_tree sl x ho B0 g n c A ts B d t hs hown hx hg ht hne hm hb fun A' c' W' h1 h2 => hK _ _ (h A' c' W' h1 h2)
def LPost (w : World) (g size : Nat) (lg : Bool) (R : Pr (List (List Tw))) (e : Ending) (w' : World) : Prop :=
  Chg (fun k => k = g) w w' ∧ match R with
  | .out => False
  | .bad l => e = thrown size l
  | .ok ts l m => ∃ A c, e = .returned (.slice A ts.length c) ∧ TsR w.heap.size w' A ts.length c ts ∧ RdM w' g l size (lg || m) ∧ (∀ t ∈ ts, t.length ≤ 2048) ∧ ts.length ≤ 50000
theorem listP_succ (f : List Tz → Pr (List Tw)) (s : List UInt8) (n : Nat) (acc : List (List Tw)) (l : List Tz) :
    listP f s (n + 1) acc l = (f l).bind fun t l1 => if isT s l1 then .ok (acc ++ [t]) l1.tail false else (mustP [44] l1).bind fun _ l2 => listP f s n (acc ++ [t]) l2 := rfl
set_option maxRecDepth 100000 in
set_option maxHeartbeats 16000000 in
theorem list_any (fid : FuncId) (first cap : Array Value) (f : List Tz → Pr (List Tw)) (s : List UInt8) (N : Nat) (g size : Nat) (l : List Tz) (lg : Bool) (w : World)
    (hcf : ∀ (args : Array Value) (W : World), (callFunc fid args).run Tryd.prog W = .ok (.enter fid args) W)
    (hdo : FReads fid first cap g size w f) (hlen : ∀ l t l' m, f l = .ok t l' m → t.length ≤ 2048 ∧ l'.length < l.length) (hr : RdM w g l size lg) (hR : lisP f s N l ≠ .out) :
    Calls Tryd.prog 72 #[gp g, .string (bs s), .func (.func fid) first cap] w (LPost w g size lg (lisP f s N l)) := by
  obtain ⟨R, hRR⟩ : ∃ R, R = lisP f s N l := ⟨_, rfl⟩
  have HH := Lib.hid (And.intro hdo (And.intro hlen (And.intro hr (And.intro hRR (And.intro hR hr.len)))))
  rw [← hRR]
  have HA := Lib.hid (has_any s g size l lg w hr)
  have HS := Lib.hid (fun (l : List Tz) (lg : Bool) (W : World) (h : RdM W g l size lg) => has_any s g size l lg W h)
  have HM := Lib.hid (fun (l : List Tz) (lg : Bool) (W : World) (h : RdM W g l size lg) => must_any [44] g size l lg W h)
  obtain ⟨sb, hsb⟩ : ∃ z, z = bs s := ⟨_, rfl⟩
  rw [← hsb] at HA HS ⊢
  clear hdo hlen hr hRR hR hsb
  cases hT : isT s l with
  | true =>
    have HE : Hid (R = .ok [] l.tail false) := Lib.hid (by rw [HH.out.2.2.2.1]; unfold lisP; rw [hT]; rfl)
    rw [hT] at HA
    clear hT
    go_enter Tryd.func72, Tryd.ntmps72
    go_wp2_with fail
    refine HA.out.mono ?_
    rintro e w1 ⟨rfl, hr1, hc1⟩
    have H1 := Lib.hid (And.intro hr1 hc1)
    clear hr1 hc1
    go_wp2_with fail
    go_ret
    refine ⟨H1.out.2, ?_⟩
    rw [HE.out]
    exact ⟨none, 0, rfl, TsR.nil _ _, by rw [Bool.or_false]; exact H1.out.1, by simp, by simp⟩
  | false =>
    have HE : Hid (R = listP f s N [] l) := Lib.hid (by rw [HH.out.2.2.2.1]; unfold lisP; rw [hT]; rfl)
    rw [hT] at HA
    clear hT
    go_enter Tryd.func72, Tryd.ntmps72
    go_wp2_with fail
    refine HA.out.mono ?_
    rintro e w1 ⟨rfl, hr1, hc1⟩
    have H1 := Lib.hid (And.intro hr1 hc1)
    clear hr1 hc1
    go_wp2_with fail
    go_loopw [7] (fun s7 wr => ∃ (m n : Nat) (ts : List (List Tw)) (l2 : List Tz) (lm : Bool) (A : Option Addr) (c : Nat), s7 = .slice A n c ∧ (listP f s m ts l2).add lm = R ∧ TsR w.heap.size wr A n c ts ∧ RdM wr g l2 size (lg || lm) ∧ Chg (fun k => k = g) w wr ∧ n + l2.length ≤ l.length ∧ ∀ t ∈ ts, t.length ≤ 2048) (fun _ wr => budOf wr g)
    case atStart => exact ⟨N, 0, [], l, false, none, 0, rfl, by rw [Pr.add_false, HE.out], TsR.nil _ _, by rw [Bool.or_false]; exact H1.out.1, H1.out.2, by omega, by simp⟩
    case round =>
      clear H1 HA HE
      obtain ⟨m, n, ts, l2, lm, A, c, rfl, hE, ht, hr, hc, hn, hts⟩ := hrel
      cases m with
      | zero => exact absurd hE.symm (by rw [HH.out.2.2.2.1]; exact HH.out.2.2.2.2.1)
      | succ m =>
        rw [listP_succ] at hE
        have HW := Lib.hid (And.intro ht (And.intro hr (And.intro hc (And.intro hn hts))))
        obtain ⟨ru, hru⟩ : ∃ r, r = f l2 := ⟨_, rfl⟩
        rw [← hru] at hE
        have HE := Lib.hid hE
        have hne : f l2 ≠ .out := by
          rw [← hru]
          rintro rfl
          exact HH.out.2.2.2.2.1 (HH.out.2.2.2.1.symm.trans HE.out.symm)
        have HRU := Lib.hid hru
        have HD : Hid (Calls Tryd.prog fid (first ++ cap) wr (PPost wr g size (lg || lm) ru)) := Lib.hid (by rw [hru]; exact HH.out.1 _ _ _ hc hr hne)
        have hn5 : n ≤ 50000 := by have := HH.out.2.2.2.2.2; omega
        clear ht hr hc hn hts hE hru hne
        go_wp2_with fail
        refine HD.out.mono ?_
        rintro e w2 ⟨hc2, hp2⟩
        have HC2 : Hid (Chg (fun k => k = g) w w2 ∧ Chg (fun k => k = g) wr w2) := Lib.hid ⟨HW.out.2.2.1.trans hc2, hc2⟩
        clear hc2
        cases ru with
        | out => exact hp2.elim
        | bad l' =>
          unfold thrown at hp2
          subst hp2
          go_wp2_with fail
          refine ⟨rfl, HC2.out.1, ?_⟩
          rw [← HE.out]
          rfl
        | ok u l3 m3 =>
          obtain ⟨A4, c4, rfl, ho4, hr4⟩ := hp2
          have HL := Lib.hid (HH.out.2.1 _ _ _ _ HRU.out.symm)
          have H4 : Hid (TsR w.heap.size (w2.alloc (.cells #[.slice A4 u.length c4] 23)) A n c ts ∧ RdT w.heap.size (w2.alloc (.cells #[.slice A4 u.length c4] 23)) A4 u ∧ RdM (w2.alloc (.cells #[.slice A4 u.length c4] 23)) g l3 size ((lg || lm) || m3) ∧ Chg (fun k => k = g) w (w2.alloc (.cells #[.slice A4 u.length c4] 23)) ∧ ∀ a, A4 = some a → (Value.slice A n c).ownBlock ≠ some a.block ∧ a.block < (w2.alloc (.cells #[.slice A4 u.length c4] 23)).heap.size) := Lib.hid (by
            have hal : Below w2.heap.size w2 (w2.alloc (.cells #[.slice A4 u.length c4] 23)) := (Below.refl _ _).alloc (Nat.le_refl _) _
            refine ⟨(HW.out.1.chg HC2.out.2 (fun k _ hk => by have := HH.out.2.2.1.lt; have hk2 : k = g := hk; omega)).below hal, (RdT.of_own ho4 rfl HW.out.2.2.1.size).below hal, hr4.below hal, HC2.out.1.alloc _, fun a ha => ?_⟩
            subst ha
            have h5 := World.ownsRow.lt ho4 a.block rfl
            refine ⟨fun he => ?_, Nat.lt_of_lt_of_le h5.2 hal.size⟩
            obtain ⟨_, vs, h6, _⟩ := HW.out.1
            have := (World.ownsRow.lt h6 _ he).2
            omega)
          clear ho4 hr4 HD
          obtain ⟨ul, hul⟩ : ∃ z, z = u.length := ⟨_, rfl⟩
          rw [← hul] at H4 ⊢
          have HNW : Hid ((w2.alloc (.cells #[.slice A4 ul c4] 23)).heap[w2.heap.size]? = some (.cells #[.slice A4 u.length c4] 23 (0, 0))) := Lib.hid (by rw [hul]; exact heap_alloc_new w2 _)
          clear hul
          go_upto_region 5 with (at_builtin; refine wpList_app_tree rfl (.tmp 12) (.tmp 15) rfl w.heap.size w2.heap.size n c A ts A4 c4 u rfl H4.out.1 rfl HNW.out H4.out.2.1 H4.out.2.2.2.2 (by omega) (by have := HC2.out.1.size; simp; omega) ?_; intro A6 c6 w6 ht6 hg6; have H6 := Lib.hid (And.intro ht6 hg6); clear ht6 hg6)
          have H7 : Hid (RdM w6 g l3 size ((lg || lm) || m3) ∧ Chg (fun k => k = g) w w6) := Lib.hid (by
            have hgr : Chg (fun k => (Value.slice A n c).ownBlock = some k) (w2.alloc (.cells #[.slice A4 ul c4] 23)) w6 := .of_grown H6.out.2 (fun r hr => hr)
            have hblk : ∀ k, (Value.slice A n c).ownBlock = some k → w.heap.size ≤ k := fun k hk => by
              obtain ⟨_, vs, h6, _⟩ := H4.out.1
              exact (World.ownsRow.lt h6 _ hk).1
            have hg2 := HH.out.2.2.1.lt
            exact ⟨H4.out.2.2.1.chg hgr (fun k _ hk => by have := hblk k hk; omega), H4.out.2.2.2.1.thn hgr (fun k hk hk2 => by have := hblk k hk2; omega)⟩)
          have HTS : Hid (∀ t ∈ ts ++ [u], t.length ≤ 2048) := Lib.hid (fun t ht => by
            rcases List.mem_append.1 ht with h | h
            · exact HW.out.2.2.2.2 t h
            · rw [List.mem_singleton] at h
              subst h
              exact HL.out.1)
          have HLN : Hid (l3.length < l2.length) := Lib.hid HL.out.2
          cases hT : isT s l3 with
          | true =>
            have HS3 := Lib.hid (HS.out l3 _ w6 H7.out.1)
            rw [hT] at HS3
            have HE2 : Hid (R = .ok (ts ++ [u]) l3.tail (lm || (m3 || false))) := Lib.hid (by
              rw [← HE.out, Pr.bind_ok, hT]
              rfl)
            clear hT
            go_wp2_with fail
            refine HS3.out.mono ?_
            rintro e w7 ⟨rfl, hr7, hc7⟩
            have H8 : Hid (RdM w7 g l3.tail size ((lg || lm) || m3) ∧ Chg (fun k => k = g) w w7 ∧ TsR w.heap.size w7 A6 (n + 1) c6 (ts ++ [u])) := Lib.hid ⟨hr7, H7.out.2.trans hc7, H6.out.1.chg hc7 (fun k _ hk => by have := HH.out.2.2.1.lt; have hk2 : k = g := hk; omega)⟩
            clear hr7 hc7
            go_wp2_with fail
            go_ret
            refine ⟨H8.out.2.1, ?_⟩
            rw [HE2.out]
            have hl7 := H8.out.2.2.1
            refine ⟨A6, c6, by rw [← hl7]; rfl, by rw [← hl7]; exact H8.out.2.2, ?_, HTS.out, by rw [← hl7]; have := HW.out.2.2.2.1; have := HLN.out; have := HH.out.2.2.2.2.2; omega⟩
            have := H8.out.1
            simpa [Bool.or_assoc] using this
          | false =>
            have HS3 := Lib.hid (HS.out l3 _ w6 H7.out.1)
            rw [hT] at HS3
            have HE2 : Hid (((mustP [44] l3).bind fun _ l4 => listP f s m (ts ++ [u]) l4).add (lm || m3) = R) := Lib.hid (by
              rw [← HE.out, Pr.bind_ok, hT, ← Pr.add_add]
              rfl)
            clear hT
            go_wp2_with fail
            refine HS3.out.mono ?_
            rintro e w7 ⟨rfl, hr7, hc7⟩
            have H8 : Hid (RdM w7 g l3 size ((lg || lm) || m3) ∧ Chg (fun k => k = g) w w7 ∧ TsR w.heap.size w7 A6 (n + 1) c6 (ts ++ [u])) := Lib.hid ⟨hr7, H7.out.2.trans hc7, H6.out.1.chg hc7 (fun k _ hk => by have := HH.out.2.2.1.lt; have hk2 : k = g := hk; omega)⟩
            have HM8 := Lib.hid (HM.out l3 _ w7 hr7)
            clear hr7 hc7 HS3
            cases hM : isT [44] l3 with
            | false =>
              rw [hM] at HM8
              rw [mustP_false hM] at HE2
              clear hM
              go_wp2_with fail
              refine HM8.out.mono ?_
              rintro e w8 ⟨he, hc8⟩
              have HC8 := Lib.hid (H8.out.2.1.trans hc8)
              unfold thrown at he
              subst he
              go_wp2_with fail
              refine ⟨rfl, HC8.out, ?_⟩
              rw [← HE2.out]
              rfl
            | true =>
              rw [hM] at HM8
              rw [mustP_true hM, Pr.bind_ok, Pr.add_false] at HE2
              have HM1 := Lib.hid (isT_len hM)
              clear hM
              go_wp2_with fail
              refine HM8.out.mono ?_
              rintro e w8 ⟨rfl, hr8, hc8⟩
              have H9 : Hid (RdM w8 g l3.tail size ((lg || lm) || m3) ∧ Chg (fun k => k = g) w w8 ∧ TsR w.heap.size w8 A6 (n + 1) c6 (ts ++ [u])) := Lib.hid ⟨hr8, H8.out.2.1.trans hc8, H8.out.2.2.chg hc8 (fun k _ hk => by have := HH.out.2.2.1.lt; have hk2 : k = g := hk; omega)⟩
              clear hr8 hc8
              go_wp2_with fail
              go_roundw
              case rel =>
                refine ⟨m, n + 1, ts ++ [u], l3.tail, (lm || m3), A6, c6, rfl, HE2.out, H9.out.2.2, ?_, H9.out.2.1, ?_, HTS.out⟩
                · have := H9.out.1
                  simpa [Bool.or_assoc] using this
                · have := HM1.out; have := HLN.out; have := HW.out.2.2.2.1; omega
              case measure =>
                rw [H9.out.1.bud, HW.out.2.1.bud]
                have := HM1.out; have := HLN.out; omega
def fidOf : Nt → FuncId
  | .expr => 33
  | .and_ => 77
  | .not_ => 107
  | .sum => 124
  | .term => 132
  | .pre => 136
  | .prim => 137
  | .block => 75
  | .stmt => 106
def NtOk (n : Nat) : Prop := ∀ (nt : Nt) (g size : Nat) (l : List Tz) (lg : Bool) (w : World), RdM w g l size lg → P n nt l ≠ .out → Calls Tryd.prog (fidOf nt) #[gp g] w (PPost w g size lg (P n nt l))
theorem NtOk.reads {n : Nat} (h : NtOk n) (nt : Nt) (g size : Nat) (w : World) : FReads (fidOf nt) #[gp g] #[] g size w (P n nt) := fun l lg W _ hr hne => by
  rw [Array.append_empty]
  exact h nt g size l lg W hr hne
theorem PPost.of_below {w w1 : World} {g size : Nat} {lg : Bool} {R : Pr (List Tw)} {e : Ending} {w' : World} (hb : Below w.heap.size w w1) (h : PPost w1 g size lg R e w') : PPost w g size lg R e w' := by
  refine ⟨(Chg.of_below hb).trans h.1, ?_⟩
  have h2 := h.2
  cases R with
  | out => exact h2
  | bad l => exact h2
  | ok t l m =>
    obtain ⟨A, c, h3, h4, h5⟩ := h2
    exact ⟨A, c, h3, own_mono h4 hb.size, h5⟩
theorem PPost.of_chg {w w1 : World} {g size : Nat} {lg : Bool} {R : Pr (List Tw)} {e : Ending} {w' : World} (hb : Chg (fun k => k = g) w w1) (h : PPost w1 g size lg R e w') : PPost w g size lg R e w' := by
  refine ⟨hb.trans h.1, ?_⟩
  have h2 := h.2
  cases R with
  | out => exact h2
  | bad l => exact h2
  | ok t l m =>
    obtain ⟨A, c, h3, h4, h5⟩ := h2
    exact ⟨A, c, h3, own_mono h4 hb.size, h5⟩
theorem PPost.cases {w : World} {g size : Nat} {lg : Bool} {R : Pr (List Tw)} {e : Ending} {w' : World} (h : PPost w g size lg R e w') : (∃ A n c, e = .returned (.slice A n c)) ∨ (∃ l, e = thrown size l) := by
  have h2 := h.2
  cases R with
  | out => exact h2.elim
  | bad l => exact .inr ⟨l, h2⟩
  | ok t l m =>
    obtain ⟨A, c, h3, _⟩ := h2
    exact .inl ⟨A, _, c, h3⟩
set_option maxRecDepth 100000 in
set_option maxHeartbeats 8000000 in
theorem expr_step (n : Nat) (ih : NtOk n) (g size : Nat) (l : List Tz) (lg : Bool) (w : World) (hr : RdM w g l size lg) (hne : P (n + 1) .expr l ≠ .out) :
    Calls Tryd.prog 33 #[gp g] w (PPost w g size lg (P (n + 1) .expr l)) := by
  rw [P] at hne ⊢
  have hmf : ∀ (fn : Fn) (first cap : Array Value) (w : World), (Instr.makeFunc fn first cap).run Tryd.prog w = .ok (.func fn first cap) w := fun _ _ _ _ => rfl
  have HBL : Hid (Below w.heap.size w ((w.alloc (.cells #[.string ⟨#[111, 114]⟩] 9)).alloc (.cells #[.int .u8 30] 5))) := Lib.hid (((Below.refl _ _).alloc (Nat.le_refl _) _).alloc (by simp) _)
  have HL : Hid (Calls Tryd.prog 76 #[gp g, .agg #[.slice (some ⟨w.heap.size, 0, none⟩) 1 1, .slice (some ⟨w.heap.size + 1, 0, none⟩) 1 1], .func (.func 77) #[gp g] #[], .bool false] ((w.alloc (.cells #[.string ⟨#[111, 114]⟩] 9)).alloc (.cells #[.int .u8 30] 5)) (PPost ((w.alloc (.cells #[.string ⟨#[111, 114]⟩] 9)).alloc (.cells #[.int .u8 30] 5)) g size lg ((P n .and_ l).bind (leftP (P n .and_) sOr false n)))) := Lib.hid (by
    have h1 : Blk ((w.alloc (.cells #[.string ⟨#[111, 114]⟩] 9)).alloc (.cells #[.int .u8 30] 5)) w.heap.size 9 (sOr.map fun p => Value.string (bs p.1)).toArray := (Blk.new w 9 _).alloc _
    have h2 : Blk ((w.alloc (.cells #[.string ⟨#[111, 114]⟩] 9)).alloc (.cells #[.int .u8 30] 5)) (w.heap.size + 1) 5 (sOr.map fun p => Value.int .u8 (p.2 : Nat)).toArray := by
      have h := Blk.new (w.alloc (.cells #[.string ⟨#[111, 114]⟩] 9)) 5 (sOr.map fun p => Value.int .u8 (p.2 : Nat)).toArray
      rw [show (w.alloc (.cells #[.string ⟨#[111, 114]⟩] 9)).heap.size = w.heap.size + 1 by simp] at h
      exact h
    have hg := hr.lt
    exact left_any 77 #[gp g] #[] (P n .and_) sOr false n g size l lg w.heap.size (w.heap.size + 1) _ (fun _ _ => rfl) (ih.reads .and_ g size _) (fun l t l' m h => ⟨(P_len n .and_ l t l' m h).1, Nat.le_of_lt (P_len n .and_ l t l' m h).2⟩) (hr.below HBL.out) h1 h2 (by omega) (by omega) (by decide) hne)
  obtain ⟨R, hR⟩ : ∃ R, R = (P n .and_ l).bind (leftP (P n .and_) sOr false n) := ⟨_, rfl⟩
  rw [← hR] at HL ⊢
  clear hR hr hne
  go_enter Tryd.func33, Tryd.ntmps33
  go_wp2_with fail
  refine HL.out.mono ?_
  intro e w1 hp
  have HP := Lib.hid (PPost.of_below HBL.out hp)
  rcases HP.out.cases with ⟨A, m, c, rfl⟩ | ⟨l2, h2⟩
  · go_wp2_with fail
    go_ret
    exact HP.out
  · have HP2 := HP
    unfold thrown at h2
    subst h2
    go_wp2_with fail
    exact ⟨rfl, HP2.out⟩
set_option maxRecDepth 100000 in
set_option maxHeartbeats 8000000 in
theorem and__step (n : Nat) (ih : NtOk n) (g size : Nat) (l : List Tz) (lg : Bool) (w : World) (hr : RdM w g l size lg) (hne : P (n + 1) .and_ l ≠ .out) :
    Calls Tryd.prog 77 #[gp g] w (PPost w g size lg (P (n + 1) .and_ l)) := by
  rw [P] at hne ⊢
  have hmf : ∀ (fn : Fn) (first cap : Array Value) (w : World), (Instr.makeFunc fn first cap).run Tryd.prog w = .ok (.func fn first cap) w := fun _ _ _ _ => rfl
  have HBL : Hid (Below w.heap.size w ((w.alloc (.cells #[.string ⟨#[97, 110, 100]⟩] 9)).alloc (.cells #[.int .u8 31] 5))) := Lib.hid (((Below.refl _ _).alloc (Nat.le_refl _) _).alloc (by simp) _)
  have HL : Hid (Calls Tryd.prog 76 #[gp g, .agg #[.slice (some ⟨w.heap.size, 0, none⟩) 1 1, .slice (some ⟨w.heap.size + 1, 0, none⟩) 1 1], .func (.func 107) #[gp g] #[], .bool false] ((w.alloc (.cells #[.string ⟨#[97, 110, 100]⟩] 9)).alloc (.cells #[.int .u8 31] 5)) (PPost ((w.alloc (.cells #[.string ⟨#[97, 110, 100]⟩] 9)).alloc (.cells #[.int .u8 31] 5)) g size lg ((P n .not_ l).bind (leftP (P n .not_) sAnd false n)))) := Lib.hid (by
    have h1 : Blk ((w.alloc (.cells #[.string ⟨#[97, 110, 100]⟩] 9)).alloc (.cells #[.int .u8 31] 5)) w.heap.size 9 (sAnd.map fun p => Value.string (bs p.1)).toArray := (Blk.new w 9 _).alloc _
    have h2 : Blk ((w.alloc (.cells #[.string ⟨#[97, 110, 100]⟩] 9)).alloc (.cells #[.int .u8 31] 5)) (w.heap.size + 1) 5 (sAnd.map fun p => Value.int .u8 (p.2 : Nat)).toArray := by
      have h := Blk.new (w.alloc (.cells #[.string ⟨#[97, 110, 100]⟩] 9)) 5 (sAnd.map fun p => Value.int .u8 (p.2 : Nat)).toArray
      rw [show (w.alloc (.cells #[.string ⟨#[97, 110, 100]⟩] 9)).heap.size = w.heap.size + 1 by simp] at h
      exact h
    have hg := hr.lt
    exact left_any 107 #[gp g] #[] (P n .not_) sAnd false n g size l lg w.heap.size (w.heap.size + 1) _ (fun _ _ => rfl) (ih.reads .not_ g size _) (fun l t l' m h => ⟨(P_len n .not_ l t l' m h).1, Nat.le_of_lt (P_len n .not_ l t l' m h).2⟩) (hr.below HBL.out) h1 h2 (by omega) (by omega) (by decide) hne)
  obtain ⟨R, hR⟩ : ∃ R, R = (P n .not_ l).bind (leftP (P n .not_) sAnd false n) := ⟨_, rfl⟩
  rw [← hR] at HL ⊢
  clear hR hr hne
  go_enter Tryd.func77, Tryd.ntmps77
  go_wp2_with fail
  refine HL.out.mono ?_
  intro e w1 hp
  have HP := Lib.hid (PPost.of_below HBL.out hp)
  rcases HP.out.cases with ⟨A, m, c, rfl⟩ | ⟨l2, h2⟩
  · go_wp2_with fail
    go_ret
    exact HP.out
  · have HP2 := HP
    unfold thrown at h2
    subst h2
    go_wp2_with fail
    exact ⟨rfl, HP2.out⟩
set_option maxRecDepth 100000 in
set_option maxHeartbeats 8000000 in
theorem nots_step (n : Nat) (ih : NtOk n) (g size : Nat) (l : List Tz) (lg : Bool) (w : World) (hr : RdM w g l size lg) (hT : isT [110, 111, 116] l = false) (hne : (P n .sum l).bind (leftP (P n .sum) sCmp true n) ≠ .out) :
    Calls Tryd.prog 107 #[gp g] w (PPost w g size lg ((P n .sum l).bind (leftP (P n .sum) sCmp true n))) := by
  have hmf : ∀ (fn : Fn) (first cap : Array Value) (w : World), (Instr.makeFunc fn first cap).run Tryd.prog w = .ok (.func fn first cap) w := fun _ _ _ _ => rfl
  have HA := Lib.hid (has_any [110, 111, 116] g size l lg w hr)
  rw [hT] at HA
  obtain ⟨R, hR⟩ : ∃ R, R = (P n .sum l).bind (leftP (P n .sum) sCmp true n) := ⟨_, rfl⟩
  have HX := Lib.hid (And.intro hR hne)
  rw [← hR]
  clear hR hr hT hne
  go_enter Tryd.func107, Tryd.ntmps107
  go_wp2_with fail
  refine HA.out.mono ?_
  rintro e w0 ⟨rfl, hr0, hc0⟩
  have H0 := Lib.hid hc0
  have HRR0 : RdM w0 g l size lg := hr0
  have hne := HX.out.2
  clear hr0 hc0
  have HBL : Hid (Below w0.heap.size w0 ((w0.alloc (.cells #[.string ⟨#[61, 61]⟩, .string ⟨#[33, 61]⟩, .string ⟨#[60]⟩, .string ⟨#[60, 61]⟩] 9)).alloc (.cells #[.int .u8 32, .int .u8 33, .int .u8 34, .int .u8 35] 5))) := Lib.hid (((Below.refl _ _).alloc (Nat.le_refl _) _).alloc (by simp) _)
  have HL : Hid (Calls Tryd.prog 76 #[gp g, .agg #[.slice (some ⟨w0.heap.size, 0, none⟩) 4 4, .slice (some ⟨w0.heap.size + 1, 0, none⟩) 4 4], .func (.func 124) #[gp g] #[], .bool true] ((w0.alloc (.cells #[.string ⟨#[61, 61]⟩, .string ⟨#[33, 61]⟩, .string ⟨#[60]⟩, .string ⟨#[60, 61]⟩] 9)).alloc (.cells #[.int .u8 32, .int .u8 33, .int .u8 34, .int .u8 35] 5)) (PPost ((w0.alloc (.cells #[.string ⟨#[61, 61]⟩, .string ⟨#[33, 61]⟩, .string ⟨#[60]⟩, .string ⟨#[60, 61]⟩] 9)).alloc (.cells #[.int .u8 32, .int .u8 33, .int .u8 34, .int .u8 35] 5)) g size lg ((P n .sum l).bind (leftP (P n .sum) sCmp true n)))) := Lib.hid (by
    have h1 : Blk ((w0.alloc (.cells #[.string ⟨#[61, 61]⟩, .string ⟨#[33, 61]⟩, .string ⟨#[60]⟩, .string ⟨#[60, 61]⟩] 9)).alloc (.cells #[.int .u8 32, .int .u8 33, .int .u8 34, .int .u8 35] 5)) w0.heap.size 9 (sCmp.map fun p => Value.string (bs p.1)).toArray := (Blk.new w0 9 _).alloc _
    have h2 : Blk ((w0.alloc (.cells #[.string ⟨#[61, 61]⟩, .string ⟨#[33, 61]⟩, .string ⟨#[60]⟩, .string ⟨#[60, 61]⟩] 9)).alloc (.cells #[.int .u8 32, .int .u8 33, .int .u8 34, .int .u8 35] 5)) (w0.heap.size + 1) 5 (sCmp.map fun p => Value.int .u8 (p.2 : Nat)).toArray := by
      have h := Blk.new (w0.alloc (.cells #[.string ⟨#[61, 61]⟩, .string ⟨#[33, 61]⟩, .string ⟨#[60]⟩, .string ⟨#[60, 61]⟩] 9)) 5 (sCmp.map fun p => Value.int .u8 (p.2 : Nat)).toArray
      rw [show (w0.alloc (.cells #[.string ⟨#[61, 61]⟩, .string ⟨#[33, 61]⟩, .string ⟨#[60]⟩, .string ⟨#[60, 61]⟩] 9)).heap.size = w0.heap.size + 1 by simp] at h
      exact h
    have hg := HRR0.lt
    exact left_any 124 #[gp g] #[] (P n .sum) sCmp true n g size l lg w0.heap.size (w0.heap.size + 1) _ (fun _ _ => rfl) (ih.reads .sum g size _) (fun l t l' m h => ⟨(P_len n .sum l t l' m h).1, Nat.le_of_lt (P_len n .sum l t l' m h).2⟩) (HRR0.below HBL.out) h1 h2 (by omega) (by omega) (by decide) hne)
  rw [← HX.out.1] at HL
  clear HRR0 hne
  go_wp2_with fail
  refine HL.out.mono ?_
  intro e w1 hp
  have HP := Lib.hid (PPost.of_chg H0.out (PPost.of_below HBL.out hp))
  rcases HP.out.cases with ⟨A, m, c, rfl⟩ | ⟨l2, h2⟩
  · go_wp2_with fail
    go_ret
    exact HP.out
  · have HP2 := HP
    unfold thrown at h2
    subst h2
    go_wp2_with fail
    exact ⟨rfl, HP2.out⟩
set_option maxRecDepth 100000 in
set_option maxHeartbeats 8000000 in
theorem sum_step (n : Nat) (ih : NtOk n) (g size : Nat) (l : List Tz) (lg : Bool) (w : World) (hr : RdM w g l size lg) (hne : P (n + 1) .sum l ≠ .out) :
    Calls Tryd.prog 124 #[gp g] w (PPost w g size lg (P (n + 1) .sum l)) := by
  rw [P] at hne ⊢
  have hmf : ∀ (fn : Fn) (first cap : Array Value) (w : World), (Instr.makeFunc fn first cap).run Tryd.prog w = .ok (.func fn first cap) w := fun _ _ _ _ => rfl
  have HBL : Hid (Below w.heap.size w ((w.alloc (.cells #[.string ⟨#[43]⟩, .string ⟨#[45]⟩] 9)).alloc (.cells #[.int .u8 36, .int .u8 37] 5))) := Lib.hid (((Below.refl _ _).alloc (Nat.le_refl _) _).alloc (by simp) _)
  have HL : Hid (Calls Tryd.prog 76 #[gp g, .agg #[.slice (some ⟨w.heap.size, 0, none⟩) 2 2, .slice (some ⟨w.heap.size + 1, 0, none⟩) 2 2], .func (.func 132) #[gp g] #[], .bool false] ((w.alloc (.cells #[.string ⟨#[43]⟩, .string ⟨#[45]⟩] 9)).alloc (.cells #[.int .u8 36, .int .u8 37] 5)) (PPost ((w.alloc (.cells #[.string ⟨#[43]⟩, .string ⟨#[45]⟩] 9)).alloc (.cells #[.int .u8 36, .int .u8 37] 5)) g size lg ((P n .term l).bind (leftP (P n .term) sSum false n)))) := Lib.hid (by
    have h1 : Blk ((w.alloc (.cells #[.string ⟨#[43]⟩, .string ⟨#[45]⟩] 9)).alloc (.cells #[.int .u8 36, .int .u8 37] 5)) w.heap.size 9 (sSum.map fun p => Value.string (bs p.1)).toArray := (Blk.new w 9 _).alloc _
    have h2 : Blk ((w.alloc (.cells #[.string ⟨#[43]⟩, .string ⟨#[45]⟩] 9)).alloc (.cells #[.int .u8 36, .int .u8 37] 5)) (w.heap.size + 1) 5 (sSum.map fun p => Value.int .u8 (p.2 : Nat)).toArray := by
      have h := Blk.new (w.alloc (.cells #[.string ⟨#[43]⟩, .string ⟨#[45]⟩] 9)) 5 (sSum.map fun p => Value.int .u8 (p.2 : Nat)).toArray
      rw [show (w.alloc (.cells #[.string ⟨#[43]⟩, .string ⟨#[45]⟩] 9)).heap.size = w.heap.size + 1 by simp] at h
      exact h
    have hg := hr.lt
    exact left_any 132 #[gp g] #[] (P n .term) sSum false n g size l lg w.heap.size (w.heap.size + 1) _ (fun _ _ => rfl) (ih.reads .term g size _) (fun l t l' m h => ⟨(P_len n .term l t l' m h).1, Nat.le_of_lt (P_len n .term l t l' m h).2⟩) (hr.below HBL.out) h1 h2 (by omega) (by omega) (by decide) hne)
  obtain ⟨R, hR⟩ : ∃ R, R = (P n .term l).bind (leftP (P n .term) sSum false n) := ⟨_, rfl⟩
  rw [← hR] at HL ⊢
  clear hR hr hne
  go_enter Tryd.func124, Tryd.ntmps124
  go_wp2_with fail
  refine HL.out.mono ?_
  intro e w1 hp
  have HP := Lib.hid (PPost.of_below HBL.out hp)
  rcases HP.out.cases with ⟨A, m, c, rfl⟩ | ⟨l2, h2⟩
  · go_wp2_with fail
    go_ret
    exact HP.out
  · have HP2 := HP
    unfold thrown at h2
    subst h2
    go_wp2_with fail
    exact ⟨rfl, HP2.out⟩
set_option maxRecDepth 100000 in
set_option maxHeartbeats 8000000 in
theorem term_step (n : Nat) (ih : NtOk n) (g size : Nat) (l : List Tz) (lg : Bool) (w : World) (hr : RdM w g l size lg) (hne : P (n + 1) .term l ≠ .out) :
    Calls Tryd.prog 132 #[gp g] w (PPost w g size lg (P (n + 1) .term l)) := by
  rw [P] at hne ⊢
  have hmf : ∀ (fn : Fn) (first cap : Array Value) (w : World), (Instr.makeFunc fn first cap).run Tryd.prog w = .ok (.func fn first cap) w := fun _ _ _ _ => rfl
  have HBL : Hid (Below w.heap.size w ((w.alloc (.cells #[.string ⟨#[42]⟩, .string ⟨#[47]⟩, .string ⟨#[37]⟩] 9)).alloc (.cells #[.int .u8 38, .int .u8 39, .int .u8 40] 5))) := Lib.hid (((Below.refl _ _).alloc (Nat.le_refl _) _).alloc (by simp) _)
  have HL : Hid (Calls Tryd.prog 76 #[gp g, .agg #[.slice (some ⟨w.heap.size, 0, none⟩) 3 3, .slice (some ⟨w.heap.size + 1, 0, none⟩) 3 3], .func (.func 136) #[gp g] #[], .bool false] ((w.alloc (.cells #[.string ⟨#[42]⟩, .string ⟨#[47]⟩, .string ⟨#[37]⟩] 9)).alloc (.cells #[.int .u8 38, .int .u8 39, .int .u8 40] 5)) (PPost ((w.alloc (.cells #[.string ⟨#[42]⟩, .string ⟨#[47]⟩, .string ⟨#[37]⟩] 9)).alloc (.cells #[.int .u8 38, .int .u8 39, .int .u8 40] 5)) g size lg ((P n .pre l).bind (leftP (P n .pre) sTerm false n)))) := Lib.hid (by
    have h1 : Blk ((w.alloc (.cells #[.string ⟨#[42]⟩, .string ⟨#[47]⟩, .string ⟨#[37]⟩] 9)).alloc (.cells #[.int .u8 38, .int .u8 39, .int .u8 40] 5)) w.heap.size 9 (sTerm.map fun p => Value.string (bs p.1)).toArray := (Blk.new w 9 _).alloc _
    have h2 : Blk ((w.alloc (.cells #[.string ⟨#[42]⟩, .string ⟨#[47]⟩, .string ⟨#[37]⟩] 9)).alloc (.cells #[.int .u8 38, .int .u8 39, .int .u8 40] 5)) (w.heap.size + 1) 5 (sTerm.map fun p => Value.int .u8 (p.2 : Nat)).toArray := by
      have h := Blk.new (w.alloc (.cells #[.string ⟨#[42]⟩, .string ⟨#[47]⟩, .string ⟨#[37]⟩] 9)) 5 (sTerm.map fun p => Value.int .u8 (p.2 : Nat)).toArray
      rw [show (w.alloc (.cells #[.string ⟨#[42]⟩, .string ⟨#[47]⟩, .string ⟨#[37]⟩] 9)).heap.size = w.heap.size + 1 by simp] at h
      exact h
    have hg := hr.lt
    exact left_any 136 #[gp g] #[] (P n .pre) sTerm false n g size l lg w.heap.size (w.heap.size + 1) _ (fun _ _ => rfl) (ih.reads .pre g size _) (fun l t l' m h => ⟨(P_len n .pre l t l' m h).1, Nat.le_of_lt (P_len n .pre l t l' m h).2⟩) (hr.below HBL.out) h1 h2 (by omega) (by omega) (by decide) hne)
  obtain ⟨R, hR⟩ : ∃ R, R = (P n .pre l).bind (leftP (P n .pre) sTerm false n) := ⟨_, rfl⟩
  rw [← hR] at HL ⊢
  clear hR hr hne
  go_enter Tryd.func132, Tryd.ntmps132
  go_wp2_with fail
  refine HL.out.mono ?_
  intro e w1 hp
  have HP := Lib.hid (PPost.of_below HBL.out hp)
  rcases HP.out.cases with ⟨A, m, c, rfl⟩ | ⟨l2, h2⟩
  · go_wp2_with fail
    go_ret
    exact HP.out
  · have HP2 := HP
    unfold thrown at h2
    subst h2
    go_wp2_with fail
    exact ⟨rfl, HP2.out⟩
structure St (w : World) (g size : Nat) (lg : Bool) (wk : World) (l : List Tz) (M : Bool) : Prop where
  chg : Chg (fun k => k = g) w wk
  rd : RdM wk g l size (lg || M)
  lt : g < w.heap.size
structure Ow (w wk : World) (A : Option Addr) (n c : Nat) (t : List Tw) : Prop where
  len : n = t.length
  small : t.length ≤ 2048
  own : wk.ownsRow w.heap.size 42 4 (.slice A n c) n (rowOf twcell t)
theorem St.start {w : World} {g size : Nat} {lg : Bool} {l : List Tz} (h : RdM w g l size lg) : St w g size lg w l false := ⟨Chg.refl _ _, by rw [Bool.or_false]; exact h, h.lt⟩
theorem St.step {w wk wn : World} {g size : Nat} {lg M : Bool} {l l2 : List Tz} (h : St w g size lg wk l M) (hc : Chg (fun k => k = g) wk wn) (hr : RdM wn g l2 size (lg || M)) : St w g size lg wn l2 M := ⟨h.chg.trans hc, hr, h.lt⟩
theorem St.drew {w wk : World} {g size : Nat} {lg M : Bool} {l : List Tz} (h : St w g size lg wk l M) : St w g size lg wk.drew l M := ⟨h.chg.drew, h.rd, h.lt⟩
theorem St.alloc {w wk : World} {g size : Nat} {lg M : Bool} {l : List Tz} (h : St w g size lg wk l M) (o : Obj) : St w g size lg (wk.alloc o) l M := ⟨h.chg.alloc o, h.rd.below ((Below.refl _ _).alloc (Nat.le_refl _) _), h.lt⟩
theorem Ow.chg {w wk wn : World} {A : Option Addr} {n c g : Nat} {t : List Tw} (h : Ow w wk A n c t) (hc : Chg (fun k => k = g) wk wn) (hg : g < w.heap.size) : Ow w wn A n c t :=
  ⟨h.len, h.small, own_chg h.own hc (fun gg hgg hk => by have := (World.ownsRow.lt h.own gg hgg).1; have hk2 : gg = g := hk; omega)⟩
theorem Ow.drew {w wk : World} {A : Option Addr} {n c : Nat} {t : List Tw} (h : Ow w wk A n c t) : Ow w wk.drew A n c t := ⟨h.len, h.small, h.own⟩
theorem Ow.rdt {w wk : World} {A : Option Addr} {n c : Nat} {t : List Tw} (h : Ow w wk A n c t) : RdT w.heap.size wk A t := RdT.of_own h.own h.len (Nat.le_refl _)
theorem Pr.ne_of {α β : Type} {R : Pr β} {r : Pr α} {f : α → List Tz → Pr β} {M : Bool} (h : R = (r.bind f).add M) (hR : R ≠ .out) : r ≠ .out := by
  rintro rfl
  exact hR h
def TPost (w : World) (g size : Nat) (lg : Bool) (wk : World) (M : Bool) (r : Pr (List Tw)) (e : Ending) (w' : World) : Prop :=
  match r with
  | .out => False
  | .bad l => e = .panicked [{ v := wrongV (faultAt size l), recovered := false }] ∧ PPost w g size lg (.bad l) e w'
  | .ok t l m => ∃ A c n, e = .returned (.slice A n c) ∧ St w g size lg w' l (M || m) ∧ Ow w w' A n c t ∧ Chg (fun k => k = g) wk w' ∧ ∀ a, A = some a → wk.heap.size ≤ a.block ∧ a.block < w'.heap.size
theorem St.tree {w wk : World} {g size : Nat} {lg M : Bool} {l : List Tz} {F : FuncId} {args : Array Value} {r : Pr (List Tw)} (h : St w g size lg wk l M) (hsm : ∀ t l' m, r = .ok t l' m → t.length ≤ 2048)
    (hc : Calls Tryd.prog F args wk (PPost wk g size (lg || M) r)) : Calls Tryd.prog F args wk (TPost w g size lg wk M r) := by
  refine hc.mono ?_
  rintro e w' ⟨h1, h2⟩
  cases r with
  | out => exact h2
  | bad l' => exact ⟨h2, h.chg.trans h1, h2⟩
  | ok t l' m =>
    obtain ⟨A, c, h3, h4, h5⟩ := h2
    exact ⟨A, c, _, h3, ⟨h.chg.trans h1, by rw [← Bool.or_assoc]; exact h5, h.lt⟩, ⟨rfl, hsm _ _ _ rfl, own_mono h4 h.chg.size⟩, h1, fun a ha => by subst ha; exact World.ownsRow.lt h4 a.block rfl⟩
theorem St.nt {w wk : World} {g size n : Nat} {lg M : Bool} {l : List Tz} (h : St w g size lg wk l M) (ih : NtOk n) (nt : Nt) (hne : P n nt l ≠ .out) : Calls Tryd.prog (fidOf nt) #[gp g] wk (TPost w g size lg wk M (P n nt l)) :=
  h.tree (fun t l' m hh => (P_len n nt l t l' m hh).1) (ih nt g size l _ wk h.rd hne)
theorem PPost.add {w : World} {g size : Nat} {lg M : Bool} {R : Pr (List Tw)} {e : Ending} {w' : World} (h : PPost w g size (lg || M) R e w') : PPost w g size lg (R.add M) e w' := by
  refine ⟨h.1, ?_⟩
  have h2 := h.2
  cases R with
  | out => exact h2
  | bad l => exact h2
  | ok t l m =>
    obtain ⟨A, c, h3, h4, h5⟩ := h2
    exact ⟨A, c, h3, h4, by rw [← Bool.or_assoc]; exact h5⟩
theorem St.of1 {w wk : World} {g size n c : Nat} {lg M : Bool} {l : List Tz} {A : Option Addr} {t : List Tw} (h : St w g size lg wk l M) (x : Tw) (ho : Ow w wk A n c t) :
    Calls Tryd.prog 74 #[gp g, .agg #[.int .u8 (x.op : Nat), .int .i64 x.kids, .int .i64 x.int, .string x.text], .slice (some ⟨wk.heap.size, 0, none⟩) 1 1] (wk.alloc (.cells #[.slice A n c] 23)) (PPost w g size lg ((ofP x [t] l).add M)) := by
  have hal : Below wk.heap.size wk (wk.alloc (.cells #[.slice A n c] 23)) := (Below.refl _ _).alloc (Nat.le_refl _) _
  have hpt : PtM w.heap.size (wk.alloc (.cells #[.slice A n c] 23)) (some ⟨wk.heap.size, 0, none⟩) [t] :=
    PtM.one (c := c) (by rw [← ho.len]; exact Blk.new wk _ _) h.chg.size (ho.rdt.below hal)
  refine (of_any x g size l _ w.heap.size _ 1 [t] _ (h.alloc _).rd h.lt hpt (by simp) (fun u hu => by rw [List.mem_singleton] at hu; subst hu; exact ho.small)).mono fun e w' hp => ?_
  exact PPost.of_chg (h.alloc _).chg hp.add
theorem St.of2 {w wk : World} {g size n c n2 c2 : Nat} {lg M : Bool} {l : List Tz} {A A2 : Option Addr} {t t2 : List Tw} (h : St w g size lg wk l M) (x : Tw) (ho : Ow w wk A n c t) (ho2 : Ow w wk A2 n2 c2 t2) :
    Calls Tryd.prog 74 #[gp g, .agg #[.int .u8 (x.op : Nat), .int .i64 x.kids, .int .i64 x.int, .string x.text], .slice (some ⟨wk.heap.size, 0, none⟩) 2 2] (wk.alloc (.cells #[.slice A n c, .slice A2 n2 c2] 23)) (PPost w g size lg ((ofP x [t, t2] l).add M)) := by
  have hal : Below wk.heap.size wk (wk.alloc (.cells #[.slice A n c, .slice A2 n2 c2] 23)) := (Below.refl _ _).alloc (Nat.le_refl _) _
  have hpt : PtM w.heap.size (wk.alloc (.cells #[.slice A n c, .slice A2 n2 c2] 23)) (some ⟨wk.heap.size, 0, none⟩) [t, t2] :=
    PtM.two (c := c) (d := c2) (by rw [← ho.len, ← ho2.len]; exact Blk.new wk _ _) h.chg.size (ho.rdt.below hal) (ho2.rdt.below hal)
  refine (of_any x g size l _ w.heap.size _ 2 [t, t2] _ (h.alloc _).rd h.lt hpt (by simp) (fun u hu => by
    simp only [List.mem_cons, List.not_mem_nil, or_false] at hu
    rcases hu with rfl | rfl
    · exact ho.small
    · exact ho2.small)).mono fun e w' hp => ?_
  exact PPost.of_chg (h.alloc _).chg hp.add
theorem St.ofs {w wk : World} {g size n c : Nat} {lg M : Bool} {l : List Tz} {A : Option Addr} {ts : List (List Tw)} (h : St w g size lg wk l M) (x : Tw) (ho : TsR w.heap.size wk A n c ts) (hn : n ≤ 100000) (hts : ∀ t ∈ ts, t.length ≤ 2048) :
    Calls Tryd.prog 74 #[gp g, .agg #[.int .u8 (x.op : Nat), .int .i64 x.kids, .int .i64 x.int, .string x.text], .slice A n c] wk (PPost w g size lg ((ofP x ts l).add M)) := by
  have hl := ho.1
  have := of_any x g size l _ w.heap.size A c ts wk h.rd h.lt ho.ptm (by omega) hts
  rw [← hl] at this
  exact this.mono fun e w' hp => PPost.of_chg h.chg hp.add
theorem St.has {w wk : World} {g size : Nat} {lg M : Bool} {l : List Tz} (h : St w g size lg wk l M) (s : List UInt8) :
    Calls Tryd.prog 104 #[gp g, .string (bs s)] wk fun e w' => e = .returned (.bool (isT s l)) ∧ St w g size lg w' (if isT s l then l.tail else l) M ∧ Chg (fun k => k = g) wk w' :=
  (has_any s g size l _ wk h.rd).mono fun _ _ hp => ⟨hp.1, h.step hp.2.2 hp.2.1, hp.2.2⟩
theorem St.must {w wk : World} {g size : Nat} {lg M : Bool} {l : List Tz} (h : St w g size lg wk l M) (s : List UInt8) :
    Calls Tryd.prog 70 #[gp g, .string (bs s)] wk fun e w' => if isT s l then e = .returned (.tuple #[]) ∧ St w g size lg w' l.tail M ∧ Chg (fun k => k = g) wk w' else e = .panicked [{ v := wrongV (faultAt size l), recovered := false }] ∧ PPost w g size lg (.bad l) e w' := by
  refine (must_any s g size l _ wk h.rd).mono fun e w' hp => ?_
  unfold MustPost at hp
  cases hT : isT s l with
  | true =>
    rw [hT] at hp
    exact ⟨hp.1, h.step hp.2.2 hp.2.1, hp.2.2⟩
  | false =>
    rw [hT] at hp
    exact ⟨hp.1, h.chg.trans hp.2, hp.1⟩
theorem St.own {w wk : World} {g size : Nat} {lg M : Bool} {l : List Tz} (h : St w g size lg wk l M) :
    Calls Tryd.prog 71 #[gp g] wk fun e w' => match ownP l with
      | .ok s l1 _ => e = .returned (.string s) ∧ St w g size lg w' l1 M ∧ Chg (fun k => k = g) wk w'
      | _ => e = .panicked [{ v := wrongV (faultAt size l), recovered := false }] ∧ PPost w g size lg (.bad l) e w' := by
  refine (own_any g size l _ wk h.rd).mono fun e w' hp => ?_
  unfold OwnPost at hp
  revert hp
  cases ownP l with
  | out => exact fun hp => ⟨hp.1, h.chg.trans hp.2, hp.1⟩
  | bad l1 => exact fun hp => ⟨hp.1, h.chg.trans hp.2, hp.1⟩
  | ok s l1 m => exact fun hp => ⟨hp.1, h.step hp.2.2 hp.2.1, hp.2.2⟩
theorem St.mine {w wk : World} {g size : Nat} {lg M : Bool} {l : List Tz} (h : St w g size lg wk l M) :
    Calls Tryd.prog 105 #[gp g] wk fun e w' => e = .returned (.bool (mineT l)) ∧ w' = wk := mine_any g size l _ wk h.rd
theorem St.fault {w wk : World} {g size : Nat} {lg M : Bool} {l : List Tz} (h : St w g size lg wk l M) :
    Calls Tryd.prog 69 #[gp g] wk fun e w' => e = .panicked [{ v := wrongV (faultAt size l), recovered := false }] ∧ PPost w g size lg (.bad l) e w' :=
  (fault_any g size l _ wk h.rd).mono fun e w' hp => ⟨hp.1, by rw [hp.2]; exact h.chg, hp.1⟩
theorem St.list {w wk : World} {g size n : Nat} {lg M : Bool} {l : List Tz} (h : St w g size lg wk l M) (fid : FuncId) (first cap : Array Value) (f : List Tz → Pr (List Tw)) (hf : Eats f) (s : List UInt8)
    (hcf : ∀ (args : Array Value) (W : World), (callFunc fid args).run Tryd.prog W = .ok (.enter fid args) W) (hdo : FReads fid first cap g size wk f) (hne : lisP f s n l ≠ .out) :
    Calls Tryd.prog 72 #[gp g, .string (bs s), .func (.func fid) first cap] wk fun e w' => match lisP f s n l with
      | .out => False
      | .bad l1 => e = .panicked [{ v := wrongV (faultAt size l1), recovered := false }] ∧ PPost w g size lg (.bad l1) e w'
      | .ok ts l1 m => ∃ A c k, e = .returned (.slice A k c) ∧ St w g size lg w' l1 (M || m) ∧ TsR w.heap.size w' A k c ts ∧ k ≤ 50000 ∧ (∀ t ∈ ts, t.length ≤ 2048) ∧ Chg (fun k => k = g) wk w' := by
  refine (list_any fid first cap f s n g size l _ wk hcf hdo hf h.rd hne).mono fun e w' hp => ?_
  obtain ⟨h1, h2⟩ := hp
  revert h2
  cases lisP f s n l with
  | out => exact fun h2 => h2
  | bad l1 => exact fun h2 => ⟨h2, h.chg.trans h1, h2⟩
  | ok ts l1 m =>
    rintro ⟨A, c, h3, h4, h5, h6, h7⟩
    exact ⟨A, c, _, h3, ⟨h.chg.trans h1, by rw [← Bool.or_assoc]; exact h5, h.lt⟩, h4.mono h.chg.size, h7, h6, h1⟩
theorem own_ne (l : List Tz) : ownP l ≠ .out := by
  unfold ownP
  split <;> (intro h; cases h)
theorem own_bad {l l2 : List Tz} (h : ownP l = .bad l2) : l2 = l := by
  unfold ownP at h
  split at h
  · cases h
  · injection h with h
    exact h.symm
theorem own_okm {l l2 : List Tz} {s : ByteArray} {m : Bool} (h : ownP l = .ok s l2 m) : m = false := by
  unfold ownP at h
  split at h
  · injection h with _ _ h
    exact h.symm
  · cases h
theorem St.lit {w wk : World} {g size : Nat} {lg M : Bool} {l : List Tz} (h : St w g size lg wk l M) (x : Tw) :
    PPost w g size lg ((Pr.ok [x] l false).add M) (.returned (.slice (some ⟨wk.heap.size, 0, none⟩) 1 1)) (wk.alloc (.cells #[.int .u8 (x.op : Nat), .int .i64 x.kids, .int .i64 x.int, .string x.text] 42)) := by
  refine ⟨(h.alloc _).chg, _, 1, rfl, ?_, ?_⟩
  · exact World.ownsRow_lit wk #[.int .u8 (x.op : Nat), .int .i64 x.kids, .int .i64 x.int, .string x.text] 1 h.chg.size (by unfold maxLen; decide) rfl
  · rw [Bool.or_false]
    exact (h.alloc _).rd
theorem St.same {w wk : World} {g size n c : Nat} {lg M : Bool} {l : List Tz} {A : Option Addr} {t : List Tw} (h : St w g size lg wk l M) (ho : Ow w wk A n c t) : PPost w g size lg ((Pr.ok t l false).add M) (.returned (.slice A n c)) wk := by
  refine ⟨h.chg, A, c, by rw [ho.len], by rw [← ho.len]; exact ho.own, ?_⟩
  rw [Bool.or_false]
  exact h.rd
theorem PPost.okst {w : World} {g size : Nat} {lg M m : Bool} {t : List Tw} {l : List Tz} {e : Ending} {w' : World} (h : PPost w g size lg ((Pr.ok t l m).add M) e w') (ht : t.length ≤ 2048) (hg : g < w.heap.size) :
    ∃ A c n, e = .returned (.slice A n c) ∧ St w g size lg w' l (M || m) ∧ Ow w w' A n c t := by
  obtain ⟨h1, A, c, h2, h3, h4⟩ := h
  exact ⟨A, c, _, h2, ⟨h1, h4, hg⟩, ⟨rfl, ht, h3⟩⟩
theorem postP_succ (f : List Tz → Pr (List Tw)) (n : Nat) (t : List Tw) (l : List Tz) :
    postP f (n + 1) t l = if isT [91] l then (f l.tail).bind fun u l1 => (ofP (tw 42) [t, u] l1).bind fun t2 l2 => (mustP [93] l2).bind fun _ l3 => postP f n t2 l3 else .ok t l false := rfl
theorem stmtsP_succ (f : List Tz → Pr (List Tw)) (n : Nat) (acc : List (List Tw)) (l : List Tz) :
    stmtsP f (n + 1) acc l = if isT [125] l then .ok acc l.tail false else (f l).bind fun t l1 => stmtsP f n (acc ++ [t]) l1 := rfl
theorem Pr.add_bind {α β : Type} (r : Pr α) (m : Bool) (f : α → List Tz → Pr β) : (r.add m).bind f = (r.bind f).add m := by
  cases r with
  | out => rfl
  | bad l => rfl
  | ok a l k => show (f a l).add (m || k) = ((f a l).add k).add m; rw [Pr.add_add]
theorem Pr.bind_bind {α β γ : Type} (r : Pr α) (f : α → List Tz → Pr β) (h : β → List Tz → Pr γ) : (r.bind f).bind h = r.bind fun a l => (f a l).bind h := by
  cases r with
  | out => rfl
  | bad l => rfl
  | ok a l k => show ((f a l).add k).bind h = ((f a l).bind h).add k; rw [Pr.add_bind]
theorem TsR.go {w wk wn : World} {A : Option Addr} {n c g : Nat} {ts : List (List Tw)} (h : TsR w.heap.size wk A n c ts) (hc : Chg (fun k => k = g) wk wn) (hg : g < w.heap.size) : TsR w.heap.size wn A n c ts :=
  h.chg hc (fun k _ hk => by have hk2 : k = g := hk; omega)
theorem Ow.free {w wk : World} {A : Option Addr} {n c : Nat} {t : List Tw} (h : Ow w wk A n c t) : ∀ a, A = some a → a.block < wk.heap.size := fun a ha => by
  subst ha
  exact (World.ownsRow.lt h.own a.block rfl).2
theorem TsR.two {w wk : World} {A A2 : Option Addr} {n c n2 c2 : Nat} {t t2 : List Tw} (ho : Ow w wk A n c t) (ho2 : Ow w wk A2 n2 c2 t2) (hw : w.heap.size ≤ wk.heap.size) : TsR w.heap.size (wk.alloc (.cells #[.slice A n c, .slice A2 n2 c2] 23)) (some ⟨wk.heap.size, 0, none⟩) 2 2 [t, t2] := by
  have hal : Below wk.heap.size wk (wk.alloc (.cells #[.slice A n c, .slice A2 n2 c2] 23)) := (Below.refl _ _).alloc (Nat.le_refl _) _
  have hne : ∀ (a : Addr), a.block < wk.heap.size → (Value.slice (some ⟨wk.heap.size, 0, none⟩) 2 2).ownBlock ≠ some a.block := fun a h1 he => by
    have h2 : wk.heap.size = a.block := by simpa [Value.ownBlock] using he
    omega
  refine ⟨rfl, _, World.ownsRow_lit wk #[.slice A n c, .slice A2 n2 c2] 2 hw (by unfold maxLen; decide) rfl, fun i u hu => ?_⟩
  match i, hu with
  | 0, hu =>
    obtain rfl : t = u := by simpa using hu
    exact ⟨A, c, by rw [ho.len]; rfl, ho.rdt.below hal, fun a ha => ⟨hne a (ho.free a ha), Nat.lt_of_lt_of_le (ho.free a ha) hal.size⟩⟩
  | 1, hu =>
    obtain rfl : t2 = u := by simpa using hu
    exact ⟨A2, c2, by rw [ho2.len]; rfl, ho2.rdt.below hal, fun a ha => ⟨hne a (ho2.free a ha), Nat.lt_of_lt_of_le (ho2.free a ha) hal.size⟩⟩
  | i + 2, hu => simp at hu
theorem St.far {w wk wn : World} {g size b : Nat} {lg M : Bool} {l : List Tz} (h : St w g size lg wk l M) (hc : Chg (fun k => k = b) wk wn) (hb : w.heap.size ≤ b) : St w g size lg wn l M :=
  ⟨h.chg.thn hc (fun k hk hk2 => by have e : k = b := hk2; omega), h.rd.chg hc (fun k _ hk => by have e : k = b := hk; have := h.lt; omega), h.lt⟩
theorem isT_other {s s2 : List UInt8} {l : List Tz} (h : isT s l = true) (hne : s ≠ s2) : isT s2 l = false := by
  cases l with
  | nil => rfl
  | cons x r =>
    unfold isT at h
    rw [Bool.and_eq_true, decide_eq_true_eq] at h
    show ((decide (x.kind = 1) || decide (x.kind = 4)) && decide (x.text.data.toList = s2)) = false
    have h3 : ¬ x.text.data.toList = s2 := by rw [h.2]; exact hne
    rw [decide_eq_false h3, Bool.and_false]
theorem PPost.end_ {w : World} {g size : Nat} {lg : Bool} {R R2 : Pr (List Tw)} {e : Ending} {w' : World} (h : PPost w g size lg R2 e w') (hR : R = R2) : PPost w g size lg R e w' := by rw [hR]; exact h
set_option maxRecDepth 100000 in
set_option maxHeartbeats 16000000 in
theorem one_any (n op : Nat) (ih : NtOk n) (g size : Nat) (l : List Tz) (lg : Bool) (w : World) (hr : RdM w g l size lg) (hne : oneP (P n .expr) op l ≠ .out) :
    Calls Tryd.prog 138 #[gp g, .int .u8 (op : Nat)] w (PPost w g size lg (oneP (P n .expr) op l)) := by
  have HS0 : Hid (St w g size lg w l false) := Lib.hid (St.start hr)
  obtain ⟨R, hR⟩ : ∃ R, R = oneP (P n .expr) op l := ⟨_, rfl⟩
  have HNE : Hid (R ≠ .out) := Lib.hid (by rw [hR]; exact hne)
  rw [← hR]
  have HE : Hid (R = (oneP (P n .expr) op l).add false) := Lib.hid (by rw [hR, Pr.add_false])
  clear hR hr hne
  unfold oneP at HE
  go_enter Tryd.func138, Tryd.ntmps138
  have HM := Lib.hid (HS0.out.must [40])
  rcases Bool.eq_false_or_eq_true (isT [40] l) with hT | hT
  rotate_left
  · rw [hT] at HM
    rw [mustP_false hT] at HE
    go_wp2_with fail
    refine HM.out.mono ?_
    rintro e w1 ⟨rfl, hp⟩
    have HP := Lib.hid hp
    go_wp2_with fail
    exact ⟨rfl, by rw [HE.out]; exact HP.out⟩
  rw [hT] at HM
  rw [mustP_true hT, Pr.bind_ok, Pr.add_add, Bool.or_false] at HE
  have HT0 := Lib.hid (isT_len hT)
  clear hT
  go_wp2_with fail
  refine HM.out.mono ?_
  rintro e w1 ⟨rfl, hs, hc⟩
  clear HM
  have HS1 : Hid (St w g size lg w1 l.tail false) := Lib.hid hs
  clear hs hc HS0
  have HD := Lib.hid (HS1.out.nt ih .expr (Pr.ne_of HE.out HNE.out))
  obtain ⟨r1, hr1⟩ : ∃ r, r = P n .expr l.tail := ⟨_, rfl⟩
  rw [← hr1] at HD HE
  have HR1 := Lib.hid hr1
  clear hr1
  go_wp2_with fail
  refine HD.out.mono ?_
  rcases r1 with _ | l2 | ⟨t2, l2, m2⟩
  · intro e w2 hh
    exact (show False from hh).elim
  · rintro e w2 ⟨rfl, hp⟩
    have HP := Lib.hid hp
    go_wp2_with fail
    exact ⟨rfl, by rw [HE.out]; exact HP.out⟩
  rintro e w2 ⟨A2, c2, n2, rfl, hs, ho, hc, hfr⟩
  rw [Pr.bind_ok, Pr.add_add] at HE
  obtain ⟨M2, hM⟩ : ∃ z, z = (false || m2) := ⟨_, rfl⟩
  rw [← hM] at hs HE
  have HO2 := Lib.hid ho
  have HFR2 := Lib.hid hfr
  clear hM ho HD hfr
  have HS2 : Hid (St w g size lg w2 l2 M2) := Lib.hid hs
  clear hs hc HS1
  have HM := Lib.hid (HS2.out.must [41])
  rcases Bool.eq_false_or_eq_true (isT [41] l2) with hT | hT
  rotate_left
  · rw [hT] at HM
    rw [mustP_false hT] at HE
    go_wp2_with fail
    refine HM.out.mono ?_
    rintro e w3 ⟨rfl, hp⟩
    have HP := Lib.hid hp
    go_wp2_with fail
    exact ⟨rfl, by rw [HE.out]; exact HP.out⟩
  rw [hT] at HM
  rw [mustP_true hT, Pr.bind_ok, Pr.add_add, Bool.or_false] at HE
  have HT2 := Lib.hid (isT_len hT)
  clear hT
  go_wp2_with fail
  refine HM.out.mono ?_
  rintro e w3 ⟨rfl, hs, hc⟩
  clear HM
  have HS3 : Hid (St w g size lg w3 l2.tail M2) := Lib.hid hs
  have HO2 : Hid (Ow w w3 A2 n2 c2 t2) := Lib.hid (HO2.out.chg hc HS2.out.lt)
  clear hs hc HS2
  have HF := Lib.hid (HS3.out.of1 (tw op) HO2.out)
  go_wp2_with fail
  refine HF.out.mono ?_
  intro e w9 hp
  have HP : Hid (PPost w g size lg R e w9) := Lib.hid (by rw [HE.out]; exact hp)
  rcases HP.out.cases with ⟨A9, n9, c9, rfl⟩ | ⟨l9, h9⟩
  · go_wp2_with fail
    go_ret
    exact HP.out
  · have HP2 := HP
    unfold thrown at h9
    subst h9
    go_wp2_with fail
    exact ⟨rfl, HP2.out⟩
set_option maxRecDepth 100000 in
set_option maxHeartbeats 16000000 in
theorem not_step (n : Nat) (ih : NtOk n) (g size : Nat) (l : List Tz) (lg : Bool) (w : World) (hr : RdM w g l size lg) (hne : P (n + 1) .not_ l ≠ .out) :
    Calls Tryd.prog 107 #[gp g] w (PPost w g size lg (P (n + 1) .not_ l)) := by
  rw [P] at hne ⊢
  cases hT : isT [110, 111, 116] l with
  | false =>
    rw [if_neg (Bool.eq_false_iff.1 hT)] at hne
    exact nots_step n ih g size l lg w hr hT hne
  | true =>
    rw [if_pos hT] at hne
    show Calls Tryd.prog 107 #[gp g] w (PPost w g size lg ((P n .not_ l.tail).bind fun t l1 => ofP (tw 43) [t] l1))
    have HS0 : Hid (St w g size lg w l false) := Lib.hid (St.start hr)
    obtain ⟨R, hR⟩ : ∃ R, R = (P n .not_ l.tail).bind fun t l1 => ofP (tw 43) [t] l1 := ⟨_, rfl⟩
    have HNE : Hid (R ≠ .out) := Lib.hid (by rw [hR]; exact hne)
    rw [← hR]
    have HE : Hid (R = ((P n .not_ l.tail).bind fun t l1 => ofP (tw 43) [t] l1).add false) := Lib.hid (by rw [hR, Pr.add_false])
    clear hR hr hne
    go_enter Tryd.func107, Tryd.ntmps107
    have HA := Lib.hid (HS0.out.has [110, 111, 116])
    rw [hT] at HA
    clear hT
    go_wp2_with fail
    refine HA.out.mono ?_
    rintro e w1 ⟨rfl, hs, hc⟩
    clear HA
    have HS1 : Hid (St w g size lg w1 l.tail false) := Lib.hid hs
    clear hs hc HS0
    have HD := Lib.hid (HS1.out.nt ih .not_ (Pr.ne_of HE.out HNE.out))
    obtain ⟨r1, hr1⟩ : ∃ r, r = P n .not_ l.tail := ⟨_, rfl⟩
    rw [← hr1] at HD HE
    have HR1 := Lib.hid hr1
    clear hr1
    go_wp2_with fail
    refine HD.out.mono ?_
    rcases r1 with _ | l2 | ⟨t2, l2, m2⟩
    · intro e w2 hh
      exact (show False from hh).elim
    · rintro e w2 ⟨rfl, hp⟩
      have HP := Lib.hid hp
      go_wp2_with fail
      exact ⟨rfl, by rw [HE.out]; exact HP.out⟩
    rintro e w2 ⟨A2, c2, n2, rfl, hs, ho, hc, hfr⟩
    rw [Pr.bind_ok, Pr.add_add] at HE
    obtain ⟨M2, hM⟩ : ∃ z, z = (false || m2) := ⟨_, rfl⟩
    rw [← hM] at hs HE
    have HO2 := Lib.hid ho
    have HFR2 := Lib.hid hfr
    clear hM ho HD hfr
    have HS2 : Hid (St w g size lg w2 l2 M2) := Lib.hid hs
    clear hs hc HS1
    have HF := Lib.hid (HS2.out.of1 (tw 43) HO2.out)
    go_wp2_with fail
    refine HF.out.mono ?_
    intro e w9 hp
    have HP : Hid (PPost w g size lg R e w9) := Lib.hid (by rw [HE.out]; exact hp)
    rcases HP.out.cases with ⟨A9, n9, c9, rfl⟩ | ⟨l9, h9⟩
    · go_wp2_with fail
      go_ret
      exact HP.out
    · have HP2 := HP
      unfold thrown at h9
      subst h9
      go_wp2_with fail
      exact ⟨rfl, HP2.out⟩
set_option maxRecDepth 100000 in
set_option maxHeartbeats 16000000 in
theorem pre_step (n : Nat) (ih : NtOk n) (g size : Nat) (l : List Tz) (lg : Bool) (w : World) (hr : RdM w g l size lg) (hne : P (n + 1) .pre l ≠ .out) :
    Calls Tryd.prog 136 #[gp g] w (PPost w g size lg (P (n + 1) .pre l)) := by
  rw [P] at hne ⊢
  have HS0 : Hid (St w g size lg w l false) := Lib.hid (St.start hr)
  obtain ⟨R, hR⟩ : ∃ R, R = preP (P n .pre) (P n .prim) (P n .expr) n l := ⟨_, rfl⟩
  have HNE : Hid (R ≠ .out) := Lib.hid (by rw [hR]; exact hne)
  rw [← hR]
  have HE : Hid (R = (preP (P n .pre) (P n .prim) (P n .expr) n l).add false) := Lib.hid (by rw [hR, Pr.add_false])
  clear hR hr hne
  unfold preP at HE
  go_enter Tryd.func136, Tryd.ntmps136
  have HA := Lib.hid (HS0.out.has [45])
  rcases Bool.eq_false_or_eq_true (isT [45] l) with hT | hT
  · rw [hT] at HA
    rw [if_pos hT] at HE
    have HT0 := Lib.hid (isT_len hT)
    clear hT
    go_wp2_with fail
    refine HA.out.mono ?_
    rintro e w1 ⟨rfl, hs, hc⟩
    clear HA
    have HS1 : Hid (St w g size lg w1 l.tail false) := Lib.hid hs
    clear hs hc HS0
    have HD := Lib.hid (HS1.out.nt ih .pre (Pr.ne_of HE.out HNE.out))
    obtain ⟨r1, hr1⟩ : ∃ r, r = P n .pre l.tail := ⟨_, rfl⟩
    rw [← hr1] at HD HE
    have HR1 := Lib.hid hr1
    clear hr1
    go_wp2_with fail
    refine HD.out.mono ?_
    rcases r1 with _ | l2 | ⟨t2, l2, m2⟩
    · intro e w2 hh
      exact (show False from hh).elim
    · rintro e w2 ⟨rfl, hp⟩
      have HP := Lib.hid hp
      go_wp2_with fail
      exact ⟨rfl, by rw [HE.out]; exact HP.out⟩
    rintro e w2 ⟨A2, c2, n2, rfl, hs, ho, hc, hfr⟩
    rw [Pr.bind_ok, Pr.add_add] at HE
    obtain ⟨M2, hM⟩ : ∃ z, z = (false || m2) := ⟨_, rfl⟩
    rw [← hM] at hs HE
    have HO2 := Lib.hid ho
    have HFR2 := Lib.hid hfr
    clear hM ho HD hfr
    have HS2 : Hid (St w g size lg w2 l2 M2) := Lib.hid hs
    clear hs hc HS1
    have HF := Lib.hid (HS2.out.of1 (tw 44) HO2.out)
    go_wp2_with fail
    refine HF.out.mono ?_
    intro e w9 hp
    have HP : Hid (PPost w g size lg R e w9) := Lib.hid (by rw [HE.out]; exact hp)
    rcases HP.out.cases with ⟨A9, n9, c9, rfl⟩ | ⟨l9, h9⟩
    · go_wp2_with fail
      go_ret
      exact HP.out
    · have HP2 := HP
      unfold thrown at h9
      subst h9
      go_wp2_with fail
      exact ⟨rfl, HP2.out⟩
  rw [hT] at HA
  rw [if_neg (Bool.eq_false_iff.1 hT)] at HE
  clear hT
  go_wp2_with fail
  refine HA.out.mono ?_
  rintro e w1 ⟨rfl, hs, hc⟩
  clear HA
  have HS1 : Hid (St w g size lg w1 l false) := Lib.hid hs
  clear hs hc HS0
  have HA := Lib.hid (HS1.out.has [97, 119, 97, 105, 116])
  rcases Bool.eq_false_or_eq_true (isT [97, 119, 97, 105, 116] l) with hT | hT
  · rw [hT] at HA
    rw [if_pos hT] at HE
    have HT1 := Lib.hid (isT_len hT)
    clear hT
    go_wp2_with fail
    refine HA.out.mono ?_
    rintro e w2 ⟨rfl, hs, hc⟩
    clear HA
    have HS2 : Hid (St w g size lg w2 l.tail false) := Lib.hid hs
    clear hs hc HS1
    have HD := Lib.hid (HS2.out.nt ih .pre (Pr.ne_of HE.out HNE.out))
    obtain ⟨r2, hr2⟩ : ∃ r, r = P n .pre l.tail := ⟨_, rfl⟩
    rw [← hr2] at HD HE
    have HR2 := Lib.hid hr2
    clear hr2
    go_wp2_with fail
    refine HD.out.mono ?_
    rcases r2 with _ | l2 | ⟨t3, l3, m3⟩
    · intro e w2 hh
      exact (show False from hh).elim
    · rintro e w3 ⟨rfl, hp⟩
      have HP := Lib.hid hp
      go_wp2_with fail
      exact ⟨rfl, by rw [HE.out]; exact HP.out⟩
    rintro e w3 ⟨A3, c3, n3, rfl, hs, ho, hc, hfr⟩
    rw [Pr.bind_ok, Pr.add_add] at HE
    obtain ⟨M3, hM⟩ : ∃ z, z = (false || m3) := ⟨_, rfl⟩
    rw [← hM] at hs HE
    have HO3 := Lib.hid ho
    have HFR3 := Lib.hid hfr
    clear hM ho HD hfr
    have HS3 : Hid (St w g size lg w3 l3 M3) := Lib.hid hs
    clear hs hc HS2
    have HF := Lib.hid (HS3.out.of1 (tw 54) HO3.out)
    go_wp2_with fail
    refine HF.out.mono ?_
    intro e w9 hp
    have HP : Hid (PPost w g size lg R e w9) := Lib.hid (by rw [HE.out]; exact hp)
    rcases HP.out.cases with ⟨A9, n9, c9, rfl⟩ | ⟨l9, h9⟩
    · go_wp2_with fail
      go_ret
      exact HP.out
    · have HP2 := HP
      unfold thrown at h9
      subst h9
      go_wp2_with fail
      exact ⟨rfl, HP2.out⟩
  rw [hT] at HA
  rw [if_neg (Bool.eq_false_iff.1 hT)] at HE
  clear hT
  go_wp2_with fail
  refine HA.out.mono ?_
  rintro e w2 ⟨rfl, hs, hc⟩
  clear HA
  have HS2 : Hid (St w g size lg w2 l false) := Lib.hid hs
  clear hs hc HS1
  have HA := Lib.hid (HS2.out.has [115, 101, 116, 116, 108, 101])
  rcases Bool.eq_false_or_eq_true (isT [115, 101, 116, 116, 108, 101] l) with hT | hT
  · rw [hT] at HA
    rw [if_pos hT] at HE
    have HT2 := Lib.hid (isT_len hT)
    clear hT
    go_wp2_with fail
    refine HA.out.mono ?_
    rintro e w3 ⟨rfl, hs, hc⟩
    clear HA
    have HS3 : Hid (St w g size lg w3 l.tail false) := Lib.hid hs
    clear hs hc HS2
    have HD := Lib.hid (HS3.out.nt ih .pre (Pr.ne_of HE.out HNE.out))
    obtain ⟨r3, hr3⟩ : ∃ r, r = P n .pre l.tail := ⟨_, rfl⟩
    rw [← hr3] at HD HE
    have HR3 := Lib.hid hr3
    clear hr3
    go_wp2_with fail
    refine HD.out.mono ?_
    rcases r3 with _ | l2 | ⟨t4, l4, m4⟩
    · intro e w2 hh
      exact (show False from hh).elim
    · rintro e w4 ⟨rfl, hp⟩
      have HP := Lib.hid hp
      go_wp2_with fail
      exact ⟨rfl, by rw [HE.out]; exact HP.out⟩
    rintro e w4 ⟨A4, c4, n4, rfl, hs, ho, hc, hfr⟩
    rw [Pr.bind_ok, Pr.add_add] at HE
    obtain ⟨M4, hM⟩ : ∃ z, z = (false || m4) := ⟨_, rfl⟩
    rw [← hM] at hs HE
    have HO4 := Lib.hid ho
    have HFR4 := Lib.hid hfr
    clear hM ho HD hfr
    have HS4 : Hid (St w g size lg w4 l4 M4) := Lib.hid hs
    clear hs hc HS3
    have HF := Lib.hid (HS4.out.of1 (tw 55) HO4.out)
    go_wp2_with fail
    refine HF.out.mono ?_
    intro e w9 hp
    have HP : Hid (PPost w g size lg R e w9) := Lib.hid (by rw [HE.out]; exact hp)
    rcases HP.out.cases with ⟨A9, n9, c9, rfl⟩ | ⟨l9, h9⟩
    · go_wp2_with fail
      go_ret
      exact HP.out
    · have HP2 := HP
      unfold thrown at h9
      subst h9
      go_wp2_with fail
      exact ⟨rfl, HP2.out⟩
  rw [hT] at HA
  rw [if_neg (Bool.eq_false_iff.1 hT)] at HE
  clear hT
  go_wp2_with fail
  refine HA.out.mono ?_
  rintro e w3 ⟨rfl, hs, hc⟩
  clear HA
  have HS3 : Hid (St w g size lg w3 l false) := Lib.hid hs
  clear hs hc HS2
  have HD := Lib.hid (HS3.out.nt ih .prim (Pr.ne_of HE.out HNE.out))
  obtain ⟨r3, hr3⟩ : ∃ r, r = P n .prim l := ⟨_, rfl⟩
  rw [← hr3] at HD HE
  have HR3 := Lib.hid hr3
  clear hr3
  go_wp2_with fail
  refine HD.out.mono ?_
  rcases r3 with _ | l2 | ⟨t4, l4, m4⟩
  · intro e w2 hh
    exact (show False from hh).elim
  · rintro e w4 ⟨rfl, hp⟩
    have HP := Lib.hid hp
    go_wp2_with fail
    exact ⟨rfl, by rw [HE.out]; exact HP.out⟩
  rintro e w4 ⟨A4, c4, n4, rfl, hs, ho, hc, hfr⟩
  rw [Pr.bind_ok, Pr.add_add] at HE
  obtain ⟨M4, hM⟩ : ∃ z, z = (false || m4) := ⟨_, rfl⟩
  rw [← hM] at hs HE
  have HO4 := Lib.hid ho
  have HFR4 := Lib.hid hfr
  clear hM ho HD hfr
  have HS4 : Hid (St w g size lg w4 l4 M4) := Lib.hid hs
  clear hs hc HS3
  go_wp2_with fail
  go_loopw [3] (fun s3 wr => ∃ (m : Nat) (t : List Tw) (tl : Nat) (l2 : List Tz) (lm : Bool) (A : Option Addr) (c : Nat), s3 = .slice A tl c ∧ R = (postP (P n .expr) m t l2).add lm ∧ Ow w wr A tl c t ∧ St w g size lg wr l2 lm) (fun _ wr => budOf wr g)
  case atStart => exact ⟨n, t4, n4, l4, M4, A4, c4, rfl, HE.out, HO4.out, HS4.out⟩
  case round =>
    clear HE HO4 HS4
    obtain ⟨m, t0, n0, l0, M0, A0, c0, rfl, hE, ho, hs⟩ := hrel
    obtain ⟨w0, rfl⟩ : ∃ w0 : World, w0 = wr := ⟨_, rfl⟩
    cases m with
    | zero => exact absurd hE HNE.out
    | succ m =>
      rw [postP_succ] at hE
      have HE := Lib.hid hE
      have HO0 := Lib.hid ho
      have HS0 := Lib.hid hs
      have HB0 := Lib.hid hs.rd.bud
      clear hE ho hs
      have HA := Lib.hid (HS0.out.has [91])
      rcases Bool.eq_false_or_eq_true (isT [91] l0) with hT | hT
      · rw [hT] at HA
        rw [if_pos hT] at HE
        have HT0 := Lib.hid (isT_len hT)
        clear hT
        go_wp2_with fail
        refine HA.out.mono ?_
        rintro e w1 ⟨rfl, hs, hc⟩
        clear HA
        have HS1 : Hid (St w g size lg w1 l0.tail M0) := Lib.hid hs
        have HO0 : Hid (Ow w w1 A0 n0 c0 t0) := Lib.hid (HO0.out.chg hc HS0.out.lt)
        clear hs hc HS0
        have HD := Lib.hid (HS1.out.nt ih .expr (Pr.ne_of HE.out HNE.out))
        obtain ⟨r1, hr1⟩ : ∃ r, r = P n .expr l0.tail := ⟨_, rfl⟩
        rw [← hr1] at HD HE
        have HR1 := Lib.hid hr1
        clear hr1
        go_wp2_with fail
        refine HD.out.mono ?_
        rcases r1 with _ | l2 | ⟨t2, l2, m2⟩
        · intro e w2 hh
          exact (show False from hh).elim
        · rintro e w2 ⟨rfl, hp⟩
          have HP := Lib.hid hp
          go_wp2_with fail
          exact ⟨rfl, by rw [HE.out]; exact HP.out⟩
        rintro e w2 ⟨A2, c2, n2, rfl, hs, ho, hc, hfr⟩
        rw [Pr.bind_ok, Pr.add_add] at HE
        obtain ⟨M2, hM⟩ : ∃ z, z = (M0 || m2) := ⟨_, rfl⟩
        rw [← hM] at hs HE
        have HO2 := Lib.hid ho
        have HFR2 := Lib.hid hfr
        clear hM ho HD hfr
        have HS2 : Hid (St w g size lg w2 l2 M2) := Lib.hid hs
        have HO0 : Hid (Ow w w2 A0 n0 c0 t0) := Lib.hid (HO0.out.chg hc HS1.out.lt)
        clear hs hc HS1
        have HF := Lib.hid (HS2.out.of2 (tw 42) HO0.out HO2.out)
        obtain ⟨t3, m3, h5, hl5⟩ := ofP_ok (tw 42) [t0, t2] l2
        rw [h5] at HF
        rw [h5, Pr.bind_ok, Pr.add_add] at HE
        have HG := Lib.hid (And.intro hl5 HS2.out.lt)
        clear h5 hl5
        go_wp2_with fail
        refine HF.out.mono ?_
        intro e w3 hp
        obtain ⟨A3, c3, n3, rfl, hs, ho⟩ := hp.okst HG.out.1 HG.out.2
        obtain ⟨M3, hM⟩ : ∃ z, z = (M2 || m3) := ⟨_, rfl⟩
        rw [← hM] at hs HE
        have HO3 := Lib.hid ho
        have HS3 := Lib.hid hs
        clear hM ho HF hs HG hp HS2
        have HM := Lib.hid (HS3.out.must [93])
        rcases Bool.eq_false_or_eq_true (isT [93] l2) with hT | hT
        rotate_left
        · rw [hT] at HM
          rw [mustP_false hT] at HE
          go_wp2_with fail
          refine HM.out.mono ?_
          rintro e w4 ⟨rfl, hp⟩
          have HP := Lib.hid hp
          go_wp2_with fail
          exact ⟨rfl, by rw [HE.out]; exact HP.out⟩
        rw [hT] at HM
        rw [mustP_true hT, Pr.bind_ok, Pr.add_add, Bool.or_false] at HE
        have HT3 := Lib.hid (isT_len hT)
        clear hT
        go_wp2_with fail
        refine HM.out.mono ?_
        rintro e w4 ⟨rfl, hs, hc⟩
        clear HM
        have HS4 : Hid (St w g size lg w4 l2.tail M3) := Lib.hid hs
        have HO3 : Hid (Ow w w4 A3 n3 c3 t3) := Lib.hid (HO3.out.chg hc HS3.out.lt)
        clear hs hc HS3
        go_wp2_with fail
        go_roundw
        case rel => exact ⟨m, t3, n3, l2.tail, M3, A3, c3, rfl, HE.out, HO3.out, HS4.out⟩
        case measure =>
          rw [HS4.out.rd.bud, HB0.out]
          have h1 := HT0.out
          have h2 := (P_len n .expr _ _ _ _ HR1.out.symm).2
          have h3 := HT3.out
          omega
      rw [hT] at HA
      rw [if_neg (Bool.eq_false_iff.1 hT)] at HE
      clear hT
      go_wp2_with fail
      refine HA.out.mono ?_
      rintro e w1 ⟨rfl, hs, hc⟩
      clear HA
      have HS1 : Hid (St w g size lg w1 l0 M0) := Lib.hid hs
      have HO0 : Hid (Ow w w1 A0 n0 c0 t0) := Lib.hid (HO0.out.chg hc HS0.out.lt)
      clear hs hc HS0
      have HP : Hid (PPost w g size lg R _ _) := Lib.hid ((HS1.out.same HO0.out).end_ HE.out)
      clear HE
      go_wp2_with fail
      go_ret
      exact HP.out
set_option maxRecDepth 100000 in
set_option maxHeartbeats 16000000 in
theorem block_step (n : Nat) (ih : NtOk n) (g size : Nat) (l : List Tz) (lg : Bool) (w : World) (hr : RdM w g l size lg) (hne : P (n + 1) .block l ≠ .out) :
    Calls Tryd.prog 75 #[gp g] w (PPost w g size lg (P (n + 1) .block l)) := by
  rw [P] at hne ⊢
  have HS0 : Hid (St w g size lg w l false) := Lib.hid (St.start hr)
  obtain ⟨R, hR⟩ : ∃ R, R = (mustP [123] l).bind fun _ l1 => (stmtsP (P n .stmt) n [] l1).bind fun ts l2 => ofP (tw 3) ts l2 := ⟨_, rfl⟩
  have HNE : Hid (R ≠ .out) := Lib.hid (by rw [hR]; exact hne)
  rw [← hR]
  have HE : Hid (R = ((mustP [123] l).bind fun _ l1 => (stmtsP (P n .stmt) n [] l1).bind fun ts l2 => ofP (tw 3) ts l2).add false) := Lib.hid (by rw [hR, Pr.add_false])
  clear hR hr hne
  go_enter Tryd.func75, Tryd.ntmps75
  have HLN := Lib.hid HS0.out.rd.len
  have HM := Lib.hid (HS0.out.must [123])
  cases hT : isT [123] l with
  | false =>
    rw [hT] at HM
    rw [mustP_false hT] at HE
    go_wp2_with fail
    refine HM.out.mono ?_
    rintro e w1 ⟨rfl, hp⟩
    have HP := Lib.hid hp
    go_wp2_with fail
    exact ⟨rfl, by rw [HE.out]; exact HP.out⟩
  | true =>
    rw [hT] at HM
    rw [mustP_true hT, Pr.bind_ok, Pr.add_add, Bool.or_false] at HE
    have HT0 := Lib.hid (isT_len hT)
    clear hT
    go_wp2_with fail
    refine HM.out.mono ?_
    rintro e w1 ⟨rfl, hs, hc⟩
    clear HM
    have HS1 : Hid (St w g size lg w1 l.tail false) := Lib.hid hs
    clear hs hc HS0
    go_wp2_with fail
    go_loopw [3] (fun s3 wr => ∃ (m k : Nat) (ts : List (List Tw)) (l2 : List Tz) (lm : Bool) (A : Option Addr) (c : Nat), s3 = .slice A k c ∧ R = ((stmtsP (P n .stmt) m ts l2).bind fun ts l2 => ofP (tw 3) ts l2).add lm ∧ TsR w.heap.size wr A k c ts ∧ St w g size lg wr l2 lm ∧ k + l2.length ≤ 50000 ∧ ∀ t ∈ ts, t.length ≤ 2048) (fun _ wr => budOf wr g)
    case atStart => exact ⟨n, 0, [], l.tail, false, none, 0, rfl, HE.out, TsR.nil _ _, HS1.out, by have := HLN.out; have := HT0.out; omega, by simp⟩
    case round =>
      clear HE HS1 HT0 HLN
      obtain ⟨m, k0, ts0, l0, M0, A0, c0, rfl, hE, ho, hs, hk, hts⟩ := hrel
      obtain ⟨w0, rfl⟩ : ∃ w0 : World, w0 = wr := ⟨_, rfl⟩
      cases m with
      | zero => exact absurd hE HNE.out
      | succ m =>
        rw [stmtsP_succ] at hE
        have HE := Lib.hid hE
        have HO0 := Lib.hid ho
        have HS0 := Lib.hid hs
        have HB0 := Lib.hid hs.rd.bud
        have HK := Lib.hid (And.intro hk hts)
        have hk5 : k0 ≤ 50000 := by omega
        clear hE ho hs hk hts
        have HA := Lib.hid (HS0.out.has [125])
        cases hT : isT [125] l0 with
        | true =>
          rw [hT] at HA
          rw [if_pos hT] at HE
          have HT0 := Lib.hid (isT_len hT)
          clear hT
          go_wp2_with fail
          refine HA.out.mono ?_
          rintro e w1 ⟨rfl, hs, hc⟩
          clear HA
          have HS1 : Hid (St w g size lg w1 l0.tail M0) := Lib.hid hs
          have HO0 : Hid (TsR w.heap.size w1 A0 k0 c0 ts0) := Lib.hid (HO0.out.go hc HS0.out.lt)
          clear hs hc HS0
          rw [Pr.bind_ok, Pr.add_add, Bool.or_false] at HE
          have HF := Lib.hid (HS1.out.ofs (tw 3) HO0.out (by omega) HK.out.2)
          go_wp2_with fail
          refine HF.out.mono ?_
          intro e w9 hp
          have HP : Hid (PPost w g size lg R e w9) := Lib.hid (by rw [HE.out]; exact hp)
          rcases HP.out.cases with ⟨A9, n9, c9, rfl⟩ | ⟨l9, h9⟩
          · go_wp2_with fail
            go_ret
            exact HP.out
          · have HP2 := HP
            unfold thrown at h9
            subst h9
            go_wp2_with fail
            exact ⟨rfl, HP2.out⟩
        | false =>
          rw [hT] at HA
          rw [if_neg (Bool.eq_false_iff.1 hT)] at HE
          clear hT
          go_wp2_with fail
          refine HA.out.mono ?_
          rintro e w1 ⟨rfl, hs, hc⟩
          clear HA
          have HS1 : Hid (St w g size lg w1 l0 M0) := Lib.hid hs
          have HO0 : Hid (TsR w.heap.size w1 A0 k0 c0 ts0) := Lib.hid (HO0.out.go hc HS0.out.lt)
          clear hs hc HS0
          rw [Pr.bind_bind] at HE
          have HOZ := HO0
          have HD := Lib.hid (HS1.out.nt ih .stmt (Pr.ne_of HE.out HNE.out))
          obtain ⟨r1, hr1⟩ : ∃ r, r = P n .stmt l0 := ⟨_, rfl⟩
          rw [← hr1] at HD HE
          have HR1 := Lib.hid hr1
          clear hr1
          go_wp2_with fail
          refine HD.out.mono ?_
          cases r1 with
          | out =>
            intro e w2 hh
            exact (show False from hh).elim
          | bad l2 =>
            rintro e w2 ⟨rfl, hp⟩
            have HP := Lib.hid hp
            go_wp2_with fail
            exact ⟨rfl, by rw [HE.out]; exact HP.out⟩
          | ok t2 l2 m2 =>
            rintro e w2 ⟨A2, c2, n2, rfl, hs, ho, hc, hfr⟩
            rw [Pr.bind_ok, Pr.add_add] at HE
            obtain ⟨M2, hM⟩ : ∃ z, z = (M0 || m2) := ⟨_, rfl⟩
            rw [← hM] at hs HE
            have HO2 := Lib.hid ho
            have HFR2 := Lib.hid hfr
            clear hM ho HD hfr
            have HS2 : Hid (St w g size lg w2 l2 M2) := Lib.hid hs
            have HO0 : Hid (TsR w.heap.size w2 A0 k0 c0 ts0) := Lib.hid (HO0.out.go hc HS1.out.lt)
            clear hs hc HS1
            have HPL := Lib.hid (P_len n .stmt _ _ _ _ HR1.out.symm)
            have HX : Hid (TsR w.heap.size (w2.alloc (.cells #[.slice A2 n2 c2] 23)) A0 k0 c0 ts0 ∧ RdT w.heap.size (w2.alloc (.cells #[.slice A2 n2 c2] 23)) A2 t2 ∧ (∀ a, A2 = some a → (Value.slice A0 k0 c0).ownBlock ≠ some a.block ∧ a.block < (w2.alloc (.cells #[.slice A2 n2 c2] 23)).heap.size) ∧ (w2.alloc (.cells #[.slice A2 n2 c2] 23)).heap[w2.heap.size]? = some (.cells #[.slice A2 t2.length c2] 23 (0, 0))) := Lib.hid (by
              have hal : Below w2.heap.size w2 (w2.alloc (.cells #[.slice A2 n2 c2] 23)) := (Below.refl _ _).alloc (Nat.le_refl _) _
              refine ⟨HO0.out.below hal, HO2.out.rdt.below hal, fun a ha => ⟨fun he => ?_, Nat.lt_of_lt_of_le (HFR2.out a ha).2 hal.size⟩, by rw [HO2.out.len]; exact heap_alloc_new w2 _⟩
              obtain ⟨_, vs, h6, _⟩ := HOZ.out
              have h7 := (World.ownsRow.lt h6 _ he).2
              have h8 := (HFR2.out a ha).1
              omega)
            go_wp2_with (at_builtin; refine wpList_app_tree rfl (.tmp 9) (.tmp 12) rfl w.heap.size w2.heap.size k0 c0 A0 ts0 A2 c2 t2 rfl HX.out.1 rfl HX.out.2.2.2 HX.out.2.1 HX.out.2.2.1 (by omega) (by have := HS2.out.chg.size; simp; omega) ?_; intro A6 c6 w6 ht6 hg6; have H6 := Lib.hid (And.intro ht6 hg6); clear ht6 hg6)
            go_roundw
            case rel =>
              refine ⟨m, k0 + 1, ts0 ++ [t2], l2, M2, A6, c6, rfl, HE.out, H6.out.1, ?_, ?_, ?_⟩
              · have hgr : Chg (fun k => (Value.slice A0 k0 c0).ownBlock = some k) (w2.alloc (.cells #[.slice A2 n2 c2] 23)) w6 := .of_grown H6.out.2 (fun r hr => hr)
                have hblk : ∀ k, (Value.slice A0 k0 c0).ownBlock = some k → w.heap.size ≤ k := fun k hk => by
                  obtain ⟨_, vs, h6, _⟩ := HX.out.1
                  exact (World.ownsRow.lt h6 _ hk).1
                have hlt := HS2.out.lt
                exact ⟨(HS2.out.alloc _).chg.thn hgr (fun k hk hk2 => by have := hblk k hk2; omega), (HS2.out.alloc _).rd.chg hgr (fun k _ hk => by have := hblk k hk; omega), hlt⟩
              · have := HPL.out.2
                have := HK.out.1
                omega
              · intro t ht
                rcases List.mem_append.1 ht with h | h
                · exact HK.out.2 t h
                · rw [List.mem_singleton] at h
                  subst h
                  exact HPL.out.1
            case measure =>
              have hgr : Chg (fun k => (Value.slice A0 k0 c0).ownBlock = some k) (w2.alloc (.cells #[.slice A2 n2 c2] 23)) w6 := .of_grown H6.out.2 (fun r hr => hr)
              have hblk : ∀ k, (Value.slice A0 k0 c0).ownBlock = some k → w.heap.size ≤ k := fun k hk => by
                obtain ⟨_, vs, h6, _⟩ := HX.out.1
                exact (World.ownsRow.lt h6 _ hk).1
              have hlt := HS2.out.lt
              rw [((HS2.out.alloc _).rd.chg hgr (fun k _ hk => by have := hblk k hk; omega)).bud, HB0.out]
              exact HPL.out.2
end Go.Proofs.YtbcadlocldplfaaDoor
