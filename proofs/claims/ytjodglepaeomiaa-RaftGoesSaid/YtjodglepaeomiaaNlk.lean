/- Contract of the net's look. -/
import Derived.Test.YtjodglepaeomiaaNma
namespace Go.Proofs.Ytjodglepaeomiaa
open Go.RowKit

theorem nxinfo94 : (Try.prog.info? 94).map (fun i => (i.zero, i.size, i.bytes)) = some (some (.agg #[.int .i64 0, .string ⟨#[]⟩, .int .i64 0]), 3, 32) := by kernel_rfl
theorem nxunder49 : Try.prog.underlying 49 = some (.slice 94) := by kernel_rfl
theorem Up.below {w w' : World} {B gN n d : Nat} {X : Nat → Prop} {ps : List (Nat × Sv)} {way : List Mx} {Z : Seen} {v : Nv} (h : Up w B gN n d X ps way Z v) (hb : Below w.heap.size w w') : Up w' B gN n d X ps way Z v := ⟨h.m.below hb, h.s, h.o⟩
theorem scell_one (y : Ent × Int) : ∀ u ∈ scell y, u.oneCell' = true := by
  intro u hu
  simp only [scell, List.mem_cons, List.not_mem_nil, or_false] at hu
  rcases hu with rfl | rfl | rfl <;> rfl
theorem reads_row {w : World} {g : Nat} {e : TypeId} {l : List Value} {B : Nat} {size : Nat} (h : Blk w g e l.toArray) (hl : l.length = size) (hB : g < B) : Reads w B size (some ⟨g, 0, none⟩) 1 l :=
  ⟨by rw [hl, Nat.one_mul], fun _ => ⟨_, rfl, hB, fun j x hx => by rw [addr_add, Nat.zero_add, h.cell, ← hx, List.getElem?_toArray]⟩⟩
theorem cells6 {w w0 w6 : World} {B gN n d : Nat} {X : Nat → Prop} {ps : List (Nat × Sv)} {way : List Mx} {Z : Seen} {v : Nv} (h : Up w B gN n d X ps way Z v) {k l ga c2 b2 c6 : Nat} {A6 : Option Addr} {L : List Ent} {x : Ent} {t : Int} (hL : k = Z.sure.length) (hl : l = L.length) (ho : w.ownsRow b2 39 2 (.slice (some ⟨ga, 0, none⟩) l c2) l (rowOf ecell L)) (hnX : ∀ g, (Value.slice (some ⟨ga, 0, none⟩) l c2).ownBlock = some g → ¬ X g) (hx : L[k]? = some x) (hb : Below w.heap.size w w0)
    (ho6 : w6.ownsRow 0 94 3 (.slice A6 (k + 1) c6) (k + 1) (rowOf scell Z.sure ++ scell (x, t))) (hg6 : w0.grownBy w6 (Value.slice v.As k v.cs).ownBlock) (hv6 : (Value.slice A6 (k + 1) c6).ownBlock = (Value.slice v.As k v.cs).ownBlock ∨ (Value.slice A6 (k + 1) c6).ownBlock = some w0.heap.size) :
    w6.cell? ⟨gN, 2, none⟩ = some (.slice v.As k v.cs) ∧ w6.cell? ⟨ga, k * 2, none⟩ = some (.int .i64 x.term) ∧ w6.cell? ⟨ga, k * 2 + 1, none⟩ = some (.string x.data) := by
  subst hL
  have h8 := (h.m.newSure (w1 := w6) (y := (x, t)) (A' := A6) (c' := c6) hb (by rw [rowOf_append]; exact ho6) hg6 hv6).1
  have h9 := own_chg (own_below ho hb) (.of_grown hg6 (T := X) (fun r hr => h.m.sureX r hr)) hnX
  obtain ⟨ga', e1, e2, e3⟩ := own_cells h9 hx hl
  injection e1 with e1
  injection e1 with e1
  subst e1
  exact ⟨h8.1, e2, e3⟩
/-- What look leaves. -/
def Lq (Z : Seen) (q bu : Nat) : Prop := Z.leads.length ≤ q ∧ Z.bud = bu
def LookPost (w : World) (B gN n d : Nat) (ps : List (Nat × Sv)) (way : List Mx) (q bu : Nat) (w' : World) : Prop :=
  ∃ X Z v, Up w' B gN n d X ps way Z v ∧ Z.sure.length ≤ d ∧ Lq Z q bu ∧ Chg (fun b => B ≤ b) w w'
set_option maxRecDepth 100000 in
set_option maxHeartbeats 8000000 in
theorem look_any {w : World} {B gN n d : Nat} {X : Nat → Prop} {ps : List (Nat × Sv)} {way : List Mx} {Z : Seen} {v : Nv} (h : Up w B gN n d X ps way Z v) (hsl : Z.sure.length ≤ d) (hd : d ≤ 200) (hll : Z.leads.length ≤ 80000) {bu : Nat} (hbu : Z.bud = bu) :
    Calls Try.prog 22 #[.pointer (some ⟨gN, 0, none⟩)] w fun e w' => e = .returned (.bool true) ∧ LookPost w B gN n d ps way (Z.leads.length + 7) bu w' := by
  have HA := Lib.hid h
  have hpl := h.n
  have hn7 := h.s.n7
  obtain ⟨q, hq⟩ : ∃ q, q = Z.leads.length := ⟨_, rfl⟩
  have HQ := Lib.hid hq
  rw [← hq] at hll ⊢
  clear h hq
  go_enter Try.func22, Try.ntmps22
  go_wp2_with fail
  go_loopw [3] (fun s3 wr => ∃ i : Nat, s3 = .int .i64 (i : Nat) ∧ i ≤ n ∧ LookPost w B gN n d ps way (q + i) bu wr) (fun s3 _ => n - (intOf s3).toNat)
  case atStart => exact ⟨0, rfl, by omega, X, Z, v, HA.out, hsl, ⟨by have := HQ.out; omega, hbu⟩, Chg.refl _ _⟩
  case round =>
    clear HA HQ hsl hbu
    obtain ⟨i, rfl, hi, X, Z, v, hU, hsl, hlq, hch⟩ := hrel
    have c0 := hU.m.c0
    rw [hpl] at c0
    by_cases hlt : i < n
    · have di : decide ((i : Int) < (n : Int)) = true := decide_eq_true (by omega)
      have i0 : (0 : Int) ≤ (i : Int) := by omega
      have i1 : (i : Int) < (n : Int) := by omega
      have i7 : (i : Int) < 7 := by omega
      obtain ⟨p, hp⟩ : ∃ p, ps[i]? = some p := ⟨_, List.getElem?_eq_getElem (by omega)⟩
      obtain ⟨g, S⟩ := p
      have hg : S.Good ∧ S.id = i ∧ S.n = n ∧ S.log.length ≤ d ∧ i < n := hU.s.good (sv_at hp)
      obtain ⟨gl, hAl, hcl⟩ := hU.m.srvAt hp
      rw [hAl] at c0
      have HT := Lib.hid (hU.m.tells hp hg.1)
      have HU := Lib.hid hU
      have HCH := Lib.hid hch
      have HP := Lib.hid (And.intro hp hg)
      have HLQ := Lib.hid (And.intro hsl hlq)
      clear hp hAl hg hU hch hsl hlq
      go_wp2_with fail
      refine HT.out.2.2.2.mono ?_
      rintro e w2 ⟨A2, c2, rfl, ho2, hb2⟩
      have H2 : Hid (Below wr.heap.size wr w2 ∧ w2.ownsRow wr.heap.size 39 2 (.slice A2 S.log.length c2) S.log.length (rowOf ecell S.log)) := Lib.hid ⟨hb2, ho2⟩
      obtain ⟨b2, hb2e⟩ : ∃ z, z = wr.heap.size := ⟨_, rfl⟩
      have HN2 := Lib.hid (HU.out.m.below hb2)
      have HT2 := Lib.hid (HN2.out.tells HP.out.1 HP.out.2.1)
      have hcl2 : S.commit ≤ S.log.length := HP.out.2.1.com
      have hl9 : S.log.length ≤ d := HP.out.2.2.2.2.1
      obtain ⟨l, hl⟩ : ∃ l, l = S.log.length := ⟨_, rfl⟩
      have HLL := Lib.hid hl
      rw [← hl] at H2 hl9 hcl2 ⊢
      clear ho2 hb2 hl c0 hcl
      go_wp2_with fail
      refine HT2.out.2.2.1.mono ?_
      rintro e w3 ⟨rfl, hw3⟩
      subst hw3
      have htn := (HU.out.s.toldNow (sv_at HP.out.1))
      have htold := htn.1
      have HTN := Lib.hid htn.2
      clear htn
      have d3 := HN2.out.c3 (k := i) (by omega)
      have f3 : w3.frozen? ⟨gN, 3 + i, none⟩ = false := HN2.out.top.frozen (3 + i)
      have c12 := HN2.out.c12
      obtain ⟨cm, hcm⟩ : ∃ cm, cm = S.commit := ⟨_, rfl⟩
      have HCM := Lib.hid hcm
      rw [← hcm] at hcl2 htold ⊢
      clear hcm
      have t1 : decide ((cm : Int) < ((Z.told.getD i 0 : Nat) : Int)) = false := decide_eq_false (by omega)
      have t2 : decide ((cm : Int) > (l : Int)) = false := decide_eq_false (by omega)
      have H4 := Lib.hid (HN2.out.setTold (i := i) (k := cm) (by omega))
      go_upto_region 10 with fail
      generalize w3.setCell ⟨gN, 3 + i, none⟩ (.int .i64 (cm : Nat)) = w4 at *
      clear d3 f3 c12 t1 t2
      have H5 : Hid (LookPost w B gN n d ps way (q + i) bu w4 ∧ ∃ X Z v, Up w4 B gN n d X ps way Z v ∧ Z.sure.length ≤ d ∧ Lq Z (q + i) bu ∧ Chg (fun b => B ≤ b) w w4 ∧ w4.ownsRow b2 39 2 (.slice A2 l c2) l (rowOf ecell S.log) ∧ ∀ g, (Value.slice A2 l c2).ownBlock = some g → ¬ X g) := Lib.hid (by
        have hup : Up w4 B gN n d X ps way _ v := ⟨H4.out.1, by rw [HCM.out]; exact HTN.out, HU.out.o⟩
        have hc := HCH.out.trans ((Chg.of_below H2.out.1).trans (H4.out.2.mono (fun b hb => (HN2.out.Xw b hb).1)))
        have hx : ∀ g, (Value.slice A2 l c2).ownBlock = some g → ¬ X g := fun g hg hx => by have := (HU.out.m.Xw g hx).2; have := (World.ownsRow.lt H2.out.2 g hg).1; omega
        exact ⟨⟨X, _, v, hup, HLQ.out.1, HLQ.out.2, hc⟩, X, _, v, hup, HLQ.out.1, HLQ.out.2, hc, by rw [hb2e]; exact own_chg H2.out.2 H4.out.2 hx, hx⟩)
      clear HU HCH HLQ HN2 HT HT2 HTN H4 H2 hb2e htold
      go_wp2_with fail
      go_loopw [7] (fun s7 wr => ∃ k : Nat, s7 = .int .i64 (k : Nat) ∧ k ≤ cm ∧ ∃ X Z v, Up wr B gN n d X ps way Z v ∧ Z.sure.length ≤ d ∧ k ≤ Z.sure.length ∧ Lq Z (q + i) bu ∧ Chg (fun b => B ≤ b) w wr ∧ wr.ownsRow b2 39 2 (.slice A2 l c2) l (rowOf ecell S.log) ∧ ∀ g, (Value.slice A2 l c2).ownBlock = some g → ¬ X g) (fun s7 _ => cm - (intOf s7).toNat)
      case atStart =>
        obtain ⟨_, X, Z, v, h1, h2, h3, h4, h5, h6⟩ := H5.out
        exact ⟨0, rfl, by omega, X, Z, v, h1, h2, by omega, h3, h4, h5, h6⟩
      case round =>
        clear H5
        obtain ⟨k, rfl, hk, X, Z, v, hU, hsl, hks, hlq, hch, ho, hnX⟩ := hrel
        by_cases hkc : k < cm
        · have dk : decide ((k : Int) < (cm : Int)) = true := decide_eq_true (by omega)
          have k0 : (0 : Int) ≤ (k : Int) := by omega
          have k1 : (k : Int) < (l : Int) := by omega
          obtain ⟨x, hx⟩ : ∃ x, S.log[k]? = some x := ⟨_, List.getElem?_eq_getElem (by have := HLL.out; omega)⟩
          obtain ⟨ga, hA2, a0, a1⟩ := own_cells ho hx HLL.out
          subst hA2
          have e2 := hU.m.c2
          obtain ⟨L, hL⟩ : ∃ L, L = Z.sure.length := ⟨_, rfl⟩
          have HL := Lib.hid hL
          rw [← hL] at e2 hsl hks
          by_cases hkl : k < L
          · have dl : decide ((k : Int) < (L : Int)) = true := decide_eq_true (by omega)
            have k2 : (k : Int) < (L : Int) := by omega
            obtain ⟨y, hy⟩ : ∃ y, Z.sure[k]? = some y := ⟨_, List.getElem?_eq_getElem (by omega)⟩
            obtain ⟨gs, hAs, hcs⟩ := hU.m.sureAt hy
            have hyx := hU.s.sureAt (sv_at HP.out.1) (by rw [← HCM.out]; exact hkc) hy hx
            obtain ⟨y1, yt⟩ := y
            dsimp only at hyx
            subst hyx
            obtain ⟨xt, xd⟩ := y1
            have s0 : wr.cell? ⟨gs, k * 3, none⟩ = some (.int .i64 xt) := hcs 0 _ rfl
            have s1 : wr.cell? ⟨gs, k * 3 + 1, none⟩ = some (.string xd) := hcs 1 _ rfl
            have s2 : wr.cell? ⟨gs, k * 3 + 2, none⟩ = some (.int .i64 yt) := hcs 2 _ rfl
            rw [hAs] at e2
            have HR := Lib.hid (And.intro hU (And.intro hsl (And.intro hlq (And.intro hch (And.intro ho hnX)))))
            dsimp only at a0 a1
            clear hU hlq hch ho hnX hy hx hAs hcs hL
            go_wp2_with fail
            go_quiet (fail)
            go_wp2_with fail
            go_roundw
            case rel => exact ⟨k + 1, by go_num, by omega, X, Z, v, HR.out.1.below (below_drewN (Below.refl _ _) _), by rw [← HL.out]; exact HR.out.2.1, by rw [← HL.out]; omega, HR.out.2.2.1, HR.out.2.2.2.1.drewN _, own_below HR.out.2.2.2.2.1 (below_drewN (Below.refl _ _) _), HR.out.2.2.2.2.2⟩
            case measure => simp [intOf]; omega
          · have dl : decide ((k : Int) < (L : Int)) = false := decide_eq_false (by omega)
            have hkL : k = L := by omega
            subst hkL
            have hcl : k < S.commit := by rw [← HCM.out]; exact hkc
            have HSM := Lib.hid (hU.s.sureMore (sv_at HP.out.1) (x := x) (by rw [← HL.out]; exact hcl) (by rw [← HL.out]; exact hx))
            have HT6 := Lib.hid ((hU.m.below (Below.refl wr.heap.size wr).drew).tells HP.out.1 HP.out.2.1).1
            have HF6 : Hid (∀ W, Below wr.heap.size wr W → W.cell? ⟨gN, 2, none⟩ = some (.slice v.As k v.cs) ∧ W.cell? ⟨ga, k * 2, none⟩ = some (.int .i64 x.term) ∧ W.cell? ⟨ga, k * 2 + 1, none⟩ = some (.string x.data)) := Lib.hid (fun W hW => by
              obtain ⟨ga', h1, h2, h3⟩ := own_cells (own_below ho hW) hx HLL.out
              injection h1 with h1
              injection h1 with h1
              subst h1
              exact ⟨by have := (hU.m.below hW).c2; rw [← HL.out] at this; exact this, h2, h3⟩)
            have HB6 : Hid (Below wr.heap.size wr (wr.drew.alloc (.cells (scell (x, S.term)).toArray 94)) ∧ Blk (wr.drew.alloc (.cells (scell (x, S.term)).toArray 94)) wr.heap.size 94 (scell (x, S.term)).toArray) := Lib.hid ⟨(Below.refl _ _).drew.alloc (Nat.le_refl _) _, Blk.new wr.drew _ _⟩
            have HO6 : Hid ((wr.drew.alloc (.cells (scell (x, S.term)).toArray 94)).ownsRow 0 94 3 (.slice v.As k v.cs) k (rowOf scell Z.sure)) := by rw [HL.out]; exact Lib.hid (own_below hU.m.sure HB6.out.1)
            obtain ⟨i9, hi9, hz9, hs9, hy9⟩ := info_parts nxinfo94
            have HR := Lib.hid (And.intro hU (And.intro hsl (And.intro hlq (And.intro hch (And.intro ho hnX)))))
            have HX6 := Lib.hid hx
            obtain ⟨xt, xd⟩ := x
            dsimp only [scell] at a0 a1 HF6 HB6 HO6
            clear hU hlq hch ho hnX hx hL a0 a1
            go_wp2_with fail
            refine wp_region_plan (.q 0 (.q 1 (.q 2 (.q 3 (.q 4 (.q 5 (.q 6 (.q 7 (.q 8 (.q 9 (.a1 10 (.q 11 (.a1 12 (.a1 13 (.q 14 (.q 15 (.a1 16 .fin))))))))))))))))) 16 (fun W => Hid (W.cell? ⟨gN, 2, none⟩ = some (.slice v.As k v.cs) ∧ W.cell? ⟨ga, k * 2, none⟩ = some (.int .i64 xt) ∧ W.cell? ⟨ga, k * 2 + 1, none⟩ = some (.string xd))) (by kernel_rfl) rfl (by kernel_rfl) (Lib.hid (HF6.out _ (Below.refl wr.heap.size wr).drew)) ?_
            refine wpPlan_q rfl rfl rfl ?_; intro K hK
            go_big_quiet_op
            first | go_big_quiet_on | (refine ⟨_, fun _ _ => rfl, ?_⟩; go_big_quiet_on)
            refine wpPlan_q rfl rfl rfl ?_; intro K hK
            go_big_quiet_op
            first | go_big_quiet_on | (refine ⟨_, fun _ _ => rfl, ?_⟩; go_big_quiet_on)
            refine wpPlan_q rfl rfl rfl ?_; intro K hK
            go_big_quiet_op
            first | go_big_quiet_on | (refine ⟨_, fun _ _ => rfl, ?_⟩; go_big_quiet_on)
            refine wpPlan_q rfl rfl rfl ?_; intro K hK
            go_big_quiet_op
            first | go_big_quiet_on | (refine ⟨_, fun _ _ => rfl, ?_⟩; go_big_quiet_on)
            refine wpPlan_q rfl rfl rfl ?_; intro K hK
            refine ⟨(.slice v.As k v.cs), fun W hW => ?_, ?_⟩
            · have q0 := hW.out.1
              unfold Oper.quietAt Oper.quietUpon
              simp [go_sem, q0]
            refine hK _ ?_
            clear hK K
            try simp only [Act.put, List.setIfInBounds_toArray, List.set_cons_succ, List.set_cons_zero]
            refine wpPlan_q rfl rfl rfl ?_; intro K hK
            go_big_quiet_op
            first | go_big_quiet_on | (refine ⟨_, fun _ _ => rfl, ?_⟩; go_big_quiet_on)
            refine wpPlan_q rfl rfl rfl ?_; intro K hK
            go_big_quiet_op
            first | go_big_quiet_on | (refine ⟨_, fun _ _ => rfl, ?_⟩; go_big_quiet_on)
            refine wpPlan_q rfl rfl rfl ?_; intro K hK
            go_big_quiet_op
            first | go_big_quiet_on | (refine ⟨_, fun _ _ => rfl, ?_⟩; go_big_quiet_on)
            refine wpPlan_q rfl rfl rfl ?_; intro K hK
            refine ⟨(.agg #[.int .i64 xt, .string xd]), fun W hW => ?_, ?_⟩
            · have q0 := hW.out.2.1
              have q1 := hW.out.2.2
              unfold Oper.quietAt Oper.quietUpon
              simp [go_sem, q0, q1]
            refine hK _ ?_
            clear hK K
            try simp only [Act.put, List.setIfInBounds_toArray, List.set_cons_succ, List.set_cons_zero]
            refine wpPlan_q rfl rfl rfl ?_; intro K hK
            go_big_quiet_op
            first | go_big_quiet_on | (refine ⟨_, fun _ _ => rfl, ?_⟩; go_big_quiet_on)
            refine wpPlan_act true rfl rfl rfl ?_; intro K hK
            go_simp
            refine HT6.out.mono ?_
            rintro e w5 ⟨rfl, hw5⟩
            subst hw5
            refine hK _ _ (fun _ => Lib.hid (HF6.out _ (Below.refl wr.heap.size wr).drew)) ?_
            clear hK K
            try simp only [Act.put, List.setIfInBounds_toArray, List.set_cons_succ, List.set_cons_zero]
            refine wpPlan_q rfl rfl rfl ?_; intro K hK
            go_big_quiet_op
            first | go_big_quiet_on | (refine ⟨_, fun _ _ => rfl, ?_⟩; go_big_quiet_on)
            refine wpPlan_act true rfl rfl rfl ?_; intro K hK
            go_simp
            refine hK _ _ (fun _ => Lib.hid (HF6.out _ HB6.out.1)) ?_
            clear hK K
            try simp only [Act.put, List.setIfInBounds_toArray, List.set_cons_succ, List.set_cons_zero]
            refine wpPlan_act true rfl rfl rfl ?_; intro K hK
            refine wp_append_any _ (.tmp 83) (.tmp 91) 49 rfl 0 94 i9 (.agg #[.int .i64 0, .string ⟨#[]⟩, .int .i64 0]) 3 32 nxunder49 hi9 hz9 hs9 hy9 rfl (by decide) (.slice v.As k v.cs) k (rowOf scell Z.sure) rfl HO6.out (wr.heap.size + 1) (some ⟨wr.heap.size, 0, none⟩) 1 1 (scell (⟨xt, xd⟩, S.term)) rfl (reads_row HB6.out.2 rfl (Nat.lt_succ_self _)) (scell_one _) (by unfold maxLen; omega) (by omega) (Nat.zero_le _) ?_
            intro v6 w6 ho6 hg6 hv6
            obtain ⟨A6, c6, rfl, _⟩ := own_form ho6
            have H6 := Lib.hid (And.intro ho6 (And.intro hg6 hv6))
            have HC6 := Lib.hid (cells6 HR.out.1 HL.out HLL.out HR.out.2.2.2.2.1 HR.out.2.2.2.2.2 HX6.out HB6.out.1 ho6 hg6 hv6)
            clear ho6 hg6 hv6
            refine hK _ _ (fun _ => HC6) ?_
            clear hK K
            try simp only [Act.put, List.setIfInBounds_toArray, List.set_cons_succ, List.set_cons_zero]
            refine wpPlan_q rfl rfl rfl ?_; intro K hK
            go_big_quiet_op
            first | go_big_quiet_on | (refine ⟨_, fun _ _ => rfl, ?_⟩; go_big_quiet_on)
            refine wpPlan_q rfl rfl rfl ?_; intro K hK
            go_big_quiet_op
            first | go_big_quiet_on | (refine ⟨_, fun _ _ => rfl, ?_⟩; go_big_quiet_on)
            refine wpPlan_act false rfl rfl rfl ?_; intro K hK
            have h8 := (HR.out.1.m.newSure (w1 := w6) (y := (⟨xt, xd⟩, S.term)) (A' := A6) (c' := c6) HB6.out.1 (by rw [← HL.out, rowOf_append]; exact H6.out.1) (by rw [← HL.out]; exact H6.out.2.1) (by rw [← HL.out]; exact H6.out.2.2)).1
            rw [← HL.out] at h8
            have j2 := h8.1
            have f2 := h8.2
            go_simp
            refine hK _ _ (fun h => by cases h) ?_
            clear hK K
            try simp only [Act.put, List.setIfInBounds_toArray, List.set_cons_succ, List.set_cons_zero]
            refine wpPlan_fin ?_
            have H8 : Hid _ := Lib.hid (HR.out.1.m.newSure (w1 := w6) (y := (⟨xt, xd⟩, S.term)) (A' := A6) (c' := c6) HB6.out.1 (by rw [← HL.out, rowOf_append]; exact H6.out.1) (by rw [← HL.out]; exact H6.out.2.1) (by rw [← HL.out]; exact H6.out.2.2))
            rw [← HL.out] at H8
            go_wp2_with fail
            go_roundw
            case rel => exact ⟨k + 1, by go_num, by omega, _, { Z with sure := Z.sure ++ [(⟨xt, xd⟩, S.term)] }, ⟨_, H8.out.2.1, HSM.out, HR.out.1.o⟩, by show (Z.sure ++ [_]).length ≤ d; rw [List.length_append, List.length_singleton, ← HL.out]; omega, by show k + 1 ≤ (Z.sure ++ [_]).length; rw [List.length_append, List.length_singleton, ← HL.out]; omega, HR.out.2.2.1, HR.out.2.2.2.1.trans (H8.out.2.2.mono (fun b hb => (HR.out.1.m.Xw b hb).1)), own_chg HR.out.2.2.2.2.1 H8.out.2.2 HR.out.2.2.2.2.2, fun g hg hX => by
              rcases hX with hX | hX
              · exact HR.out.2.2.2.2.2 g hg hX
              · have := (World.ownsRow.lt HR.out.2.2.2.2.1 g hg).2; omega⟩
            case measure => simp [intOf]; omega
        · have dk : decide ((k : Int) < (cm : Int)) = false := decide_eq_false (by omega)
          have HR := Lib.hid (And.intro hU (And.intro hsl (And.intro hlq hch)))
          have HTR := Lib.hid (hU.m.tells HP.out.1 HP.out.2.1)
          clear hU hsl hks hlq hch ho hnX
          go_wp2_with fail
          refine HTR.out.2.1.mono ?_
          rintro e w7 ⟨rfl, hw7⟩
          subst hw7
          by_cases hr : S.role = 2
          · have dr : ((S.role : Int) == 2) = true := by simp [hr]
            go_wp2_with fail
            refine HTR.out.1.mono ?_
            rintro e w8 ⟨rfl, hw8⟩
            subst hw8
            go_wp2_with fail
            refine (none_any HR.out.1 HP.out.1 hr (by have := HR.out.2.2.1.1; omega)).mono ?_
            rintro e w9 ⟨rfl, X9, Z9, v9, h1, h2, h3, h4, h5⟩
            have H9 : Hid (LookPost w B gN n d ps way (q + (i + 1)) bu w9) := Lib.hid ⟨X9, Z9, v9, h1, by rw [h3]; exact HR.out.2.1, ⟨by have := HR.out.2.2.1.1; omega, h4.2.trans HR.out.2.2.1.2⟩, HR.out.2.2.2.trans h5⟩
            clear h1 h2 h3 h4 h5
            go_wp2_with fail
            go_roundw
            case rel => exact ⟨i + 1, by go_num, by omega, H9.out⟩
            case measure => simp [intOf]; omega
          · have dr : ((S.role : Int) == 2) = false := by simp; omega
            go_wp2_with fail
            go_roundw
            case rel => exact ⟨i + 1, by go_num, by omega, X, Z, v, HR.out.1, HR.out.2.1, ⟨by have := HR.out.2.2.1.1; omega, HR.out.2.2.1.2⟩, HR.out.2.2.2⟩
            case measure => simp [intOf]; omega
    · have di : decide ((i : Int) < (n : Int)) = false := decide_eq_false (by omega)
      have HU := Lib.hid hU
      have HLQ := Lib.hid (And.intro hsl (And.intro hlq hch))
      clear hU hsl hlq hch
      go_wp2_with fail
      refine (kept_any HU.out (by have := HLQ.out.1; omega)).mono ?_
      rintro e w2 ⟨rfl, hb2⟩
      have HU2 := Lib.hid (HU.out.below hb2)
      have HB2 := Lib.hid hb2
      clear hb2
      go_wp2_with fail
      refine (match_any HU2.out).mono ?_
      rintro e w3 ⟨rfl, hb3⟩
      have HU3 := Lib.hid (HU2.out.below hb3)
      have HB3 := Lib.hid hb3
      clear hb3
      go_wp2_with fail
      go_ret
      exact ⟨ret_bool (by simp), X, Z, v, HU3.out, HLQ.out.1, ⟨by have := HLQ.out.2.1.1; omega, HLQ.out.2.1.2⟩, HLQ.out.2.2.trans ((Chg.of_below HB2.out).trans (.of_below HB3.out))⟩
end Go.Proofs.Ytjodglepaeomiaa
