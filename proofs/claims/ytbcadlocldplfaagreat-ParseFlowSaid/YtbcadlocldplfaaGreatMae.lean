/- Contracts of the document's expr, one, level, from the contracts of what stands below. And what follows from it. -/
import Derived.Test.YtbcadlocldplfaaGreatMad
set_option linter.unusedSimpArgs false
set_option linter.unusedVariables false
namespace Go.Proofs.YtbcadlocldplfaaGreat
open Go.RowKit
set_option maxRecDepth 100000 in
set_option maxHeartbeats 16000000 in
theorem dexpr_any {n : Nat} {L : List Tz} (ih : NtD L n) (h : Nat) (l : List Tz) (lg b : Bool) (w : World) (hr : StD w h L l b lg) (hne : b = false → P n .expr l ≠ .out) :
    Calls Tryz.prog 24 #[gp h] w (DPost w h L lg (onB b l (P n .expr l))) := by
  have HC := Lib.hid (ih .expr h l lg b w hr hne)
  clear hr hne
  go_enter Tryz.func24, Tryz.ntmps24
  go_wp2_with fail
  refine HC.out.mono ?_
  intro e w99 hp
  obtain ⟨A99, n99, c99, rfl⟩ := hp.ret
  have HP := Lib.hid hp
  clear hp
  go_wp2_with fail
  go_ret
  exact HP.out
set_option maxRecDepth 100000 in
set_option maxHeartbeats 16000000 in
theorem dlev7_any {n : Nat} {L : List Tz} (ih : NtD L n) (h : Nat) (l : List Tz) (lg b : Bool) (w : World) (hr : StD w h L l b lg) (hne : b = false → P n .pre l ≠ .out) :
    Calls Tryz.prog 47 #[gp h, .int .i64 7] w (DPost w h L lg (onB b l (P n .pre l))) := by
  have HC := Lib.hid (ih .pre h l lg b w hr hne)
  clear hr hne
  go_enter Tryz.func47, Tryz.ntmps47
  go_wp2_with fail
  refine HC.out.mono ?_
  intro e w99 hp
  obtain ⟨A99, n99, c99, rfl⟩ := hp.ret
  have HP := Lib.hid hp
  clear hp
  go_wp2_with fail
  go_ret
  exact HP.out
set_option maxRecDepth 100000 in
set_option maxHeartbeats 16000000 in
theorem done_any {n : Nat} {L : List Tz} (ih : NtD L n) (x : Tw) (h : Nat) (l : List Tz) (lg b : Bool) (w : World) (hr : StD w h L l b lg) (hne : b = false → (P n .expr l).bind (fun t l1 => ofP x [t] l1) ≠ .out) :
    Calls Tryz.prog 90 #[gp h, .agg #[.int .u8 (x.op : Nat), .int .i64 x.kids, .int .i64 x.int, .string x.text]] w (DPost w h L lg (onB b l ((P n .expr l).bind fun t l1 => ofP x [t] l1))) := by
  have HS0 : Hid (Sd w h L lg w l b false) := Lib.hid (Sd.start hr)
  obtain ⟨R, hR⟩ : ∃ R, R = onB b l ((P n .expr l).bind fun t l1 => ofP x [t] l1) := ⟨_, rfl⟩
  have HNE : Hid (R ≠ .out) := Lib.hid (by rw [hR]; exact onB_out hne)
  rw [← hR]
  have he : R = (onB b l ((P n .expr l).bind fun t l1 => ofP x [t] l1)).add false := by rw [hR, Pr.add_false]
  clear hR hr hne
  have HE := Lib.hid he
  clear he
  go_enter Tryz.func90, Tryz.ntmps90
  obtain ⟨op, kd0, iv, tx⟩ := x
  have hal : Below w.heap.size w (w.alloc (.cells #[.int .u8 (op : Nat), .int .i64 kd0, .int .i64 iv, .string tx] 29)) := (Below.refl _ _).alloc (Nat.le_refl _) _
  obtain ⟨b3, hb3⟩ : ∃ b, b = w.heap.size := ⟨_, rfl⟩
  have HB3 : Hid (Blk (w.alloc (.cells #[.int .u8 (op : Nat), .int .i64 kd0, .int .i64 iv, .string tx] 29)) b3 29 #[.int .u8 (op : Nat), .int .i64 kd0, .int .i64 iv, .string tx] ∧ b3 ≠ h) := Lib.hid ⟨by rw [hb3]; exact Blk.new w _ _, by rw [hb3]; have := HS0.out.lt; omega⟩
  have HS1 : Hid (Sd w h L lg (w.alloc (.cells #[.int .u8 (op : Nat), .int .i64 kd0, .int .i64 iv, .string tx] 29)) l b false) := Lib.hid (HS0.out.below hal)
  go_upto_region 1 with fail
  rw [← hb3]
  clear hb3 hal HS0
  generalize w.alloc (.cells #[.int .u8 (op : Nat), .int .i64 kd0, .int .i64 iv, .string tx] 29) = w1 at *
  have HC := Lib.hid (HS1.out.tree (dexpr_any ih h l _ b w1 HS1.out.rd (fun hb => bind_ne1 (onB_ne HE.out HNE.out hb))))
  go_wp2_with fail
  refine HC.out.mono ?_
  rintro e w2 ⟨t2, l2, b2, m2, A2, n2, c2, rfl, htl, ho, hs, hc, hsy⟩
  clear HC
  have he := onB_bind HE.out hsy
  try dsimp only at he
  obtain ⟨M2, hM⟩ : ∃ z, z = (false || m2) := ⟨_, rfl⟩
  rw [← hM] at he hs
  have HE := Lib.hid he
  have HT2 := Lib.hid htl
  have HO2 := Lib.hid ho
  clear he hsy hM htl ho
  have HS2 : Hid (Sd w h L lg w2 l2 b2 M2) := Lib.hid hs
  have HB3 : Hid (Blk w2 b3 29 #[.int .u8 (op : Nat), .int .i64 kd0, .int .i64 iv, .string tx] ∧ b3 ≠ h) := Lib.hid ⟨HB3.out.1.chg hc HB3.out.2, HB3.out.2⟩
  clear hs hc HS1
  have HF := Lib.hid (HS2.out.top ⟨op, kd0, iv, tx⟩ [t2] 1 HE.out HO2.out (by have := HT2.out; have := HO2.out.len; omega) (fun _ => ⟨rfl, .inl (by simp)⟩))
  go_wp2_with (refine wpList_load_row rfl 29 (.tmp 3) rfl b3 rfl 29 #[.int .u8 (op : Nat), .int .i64 kd0, .int .i64 iv, .string tx] (0, 0) _ HB3.out.1 Tryz.underlying29 rfl (by kernel_rfl) ?_)
  refine HF.out.mono ?_
  intro e w99 hp
  obtain ⟨A99, n99, c99, rfl⟩ := hp.ret
  have HP := Lib.hid hp
  clear hp HF
  go_wp2_with fail
  go_ret
  exact HP.out
set_option maxRecDepth 100000 in
set_option maxHeartbeats 16000000 in
theorem dlev1_any {n : Nat} {L : List Tz} (ih : NtD L n) (h : Nat) (l : List Tz) (lg b : Bool) (w : World) (hr : StD w h L l b lg) (hne : b = false → (P n .and_ l).bind (leftP (P n .and_) sOr false n) ≠ .out) :
    Calls Tryz.prog 47 #[gp h, .int .i64 1] w (DPost w h L lg (onB b l ((P n .and_ l).bind (leftP (P n .and_) sOr false n)))) := by
  have HS0 : Hid (Sd w h L lg w l b false) := Lib.hid (Sd.start hr)
  obtain ⟨R, hR⟩ : ∃ R, R = onB b l ((P n .and_ l).bind (leftP (P n .and_) sOr false n)) := ⟨_, rfl⟩
  have HNE : Hid (R ≠ .out) := Lib.hid (by rw [hR]; exact onB_out hne)
  rw [← hR]
  have he : R = (onB b l ((P n .and_ l).bind (leftP (P n .and_) sOr false n))).add false := by rw [hR, Pr.add_false]
  clear hR hr hne
  have HE := Lib.hid he
  clear he
  go_enter Tryz.func47, Tryz.ntmps47
  have HC := Lib.hid (HS0.out.tree (ih .and_ h l _ b w HS0.out.rd (fun hb => bind_ne1 (onB_ne HE.out HNE.out hb))))
  go_wp2_with fail
  refine HC.out.mono ?_
  rintro e w1 ⟨t1, l1, b1, m1, A1, n1, c1, rfl, htl, ho, hs, hc, hsy⟩
  clear HC
  have he := onB_bind HE.out hsy
  try dsimp only at he
  obtain ⟨M1, hM⟩ : ∃ z, z = (false || m1) := ⟨_, rfl⟩
  rw [← hM] at he hs
  have HE := Lib.hid he
  have HT1 := Lib.hid htl
  have HO1 := Lib.hid ho
  clear he hsy hM htl ho
  have HS1 : Hid (Sd w h L lg w1 l1 b1 M1) := Lib.hid hs
  clear hs hc HS0
  go_wp2_with fail
  go_loopw [6] (fun s6 wr => ∃ (A : Option Addr) (nn c : Nat) (t : List Tw) (l : List Tz) (b M : Bool) (j : Nat), s6 = .slice A nn c ∧ t.length ≤ 2048 ∧ Od w wr A nn c t ∧ Sd w h L lg wr l b M ∧ R = (onB b l (leftP (P n .and_) sOr false j t l)).add M) (fun _ wr => dbud wr h)
  case atStart => exact ⟨A1, n1, c1, t1, l1, b1, M1, n, rfl, HT1.out, HO1.out, HS1.out, HE.out⟩
  case round =>
    clear HE HS1 HO1 HT1
    obtain ⟨A, nn, c, t, l, b, M, j, rfl, htl, ho, hs, he⟩ := hrel
    have HT := Lib.hid htl
    have HO := Lib.hid ho
    have HS := Lib.hid hs
    have HE := Lib.hid he
    clear htl ho hs he
    have k2 := HS.out.rd.bad_cell
    cases b with
    | true =>
      have HD : Hid (∀ q, DPost w h L lg R (.returned (.slice A nn c)) (wr.drewN q)) := Lib.hid fun q => ⟨t, l, true, M, A, nn, c, rfl, HT.out, ⟨HO.out.len, HO.out.own⟩, ⟨HS.out.chg.drewN q, HS.out.rd.drewN q, HS.out.lt⟩, .inl ⟨rfl, HE.out⟩⟩
      go_wp2_with fail
      go_quiet (fail)
      go_wp2_with fail
      go_ret
      exact HD.out nq
    | false =>
      cases j with
      | zero => exact absurd HE.out HNE.out
      | succ j =>
        cases l with
        | nil =>
          obtain ⟨A0, c0, m0, k0, k1, hm0⟩ := HS.out.rd.none_
          have d0 : decide ((m0 : Int) < (m0 : Int)) = false := by simp
          have HR : Hid (R = (onB false [] (.ok t [] false)).add M) := Lib.hid (by rw [HE.out, leftP]; rfl)
          have HD : Hid (∀ q, DPost w h L lg R (.returned (.slice A nn c)) (wr.drewN q)) := Lib.hid fun q => Sd.same ⟨HS.out.chg.drewN q, HS.out.rd.drewN q, HS.out.lt⟩ ⟨HO.out.len, HO.out.own⟩ HT.out HR.out
          go_wp2_with fail
          go_quiet (fail)
          go_wp2_with fail
          go_ret
          exact HD.out nq
        | cons x r =>
          obtain ⟨bk, off, cc, m0, i, k0, k1, hi, hm0, c0, c1, c2, c3⟩ := HS.out.rd.head
          have d0 : decide ((i : Int) < (m0 : Int)) = true := decide_eq_true (by omega)
          have i0 : (0 : Int) ≤ (i : Int) := by omega
          have i1 : (i : Int) < (m0 : Int) := by omega
          have HFI := Lib.hid (sgn_find (k := 1) (v := sOr) (by decide) x r)
          have HQC := Lib.hid (And.intro c0 (And.intro c1 (And.intro c2 c3)))
          have HDR : Hid (∀ q, Od w (wr.drewN q) A nn c t ∧ Sd w h L lg (wr.drewN q) (x :: r) false M) := Lib.hid fun q => ⟨⟨HO.out.len, HO.out.own⟩, ⟨HS.out.chg.drewN q, HS.out.rd.drewN q, HS.out.lt⟩⟩
          have HHL : Hid (h < wr.heap.size) := Lib.hid HS.out.rd.lt
          have HBK : Hid (bk < wr.heap.size) := Lib.hid (by
            rcases Nat.lt_or_ge bk wr.heap.size with hh | hh
            · exact hh
            · have := HQC.out.1
              unfold World.cell? at this
              rw [Array.getElem?_eq_none hh] at this
              cases this)
          clear c0 c1 c2 c3
          go_wp2_with fail
          go_quiet (fail)
          go_wp2_with fail
          have HO := Lib.hid (HDR.out nq).1
          have HS := Lib.hid (HDR.out nq).2
          have k0 : (wr.drewN nq).cell? ⟨h, 0, none⟩ = some (.slice (some ⟨bk, off, none⟩) m0 cc) := k0
          have k1 : (wr.drewN nq).cell? ⟨h, 1, none⟩ = some (.int .i64 (i : Nat)) := k1
          have HQC : Hid ((wr.drewN nq).rangeAt bk (off + i * 4) [.int .u8 (x.kind : Nat), .string x.text, .int .i64 x.int, .int .i64 (x.at_ : Nat)]) := Lib.hid (by
            intro j v hj
            match j with
            | 0 => have := Option.some.inj hj; subst this; exact HQC.out.1
            | 1 => have := Option.some.inj hj; subst this; exact HQC.out.2.1
            | 2 => have := Option.some.inj hj; subst this; exact HQC.out.2.2.1
            | 3 => have := Option.some.inj hj; subst this; exact HQC.out.2.2.2
            | j + 4 => cases hj)
          have HHL : Hid (h < (wr.drewN nq).heap.size) := HHL
          have HBK : Hid (bk < (wr.drewN nq).heap.size) := HBK
          have HWR : Hid (dbud wr h = r.length + 2 ∧ (wr.drewN nq).heap.size = wr.heap.size) := Lib.hid ⟨HS.out.bud, rfl⟩
          clear k2 HDR
          generalize wr.drewN nq = wq at *
          have q0 : ∀ n' : Over wq.heap.size wq, n'.at.cell? ⟨h, 0, none⟩ = some (.slice (some ⟨bk, off, none⟩) m0 cc) := fun n' => (n'.cell HHL.out).trans k0
          have q1 : ∀ n' : Over wq.heap.size wq, n'.at.cell? ⟨h, 1, none⟩ = some (.int .i64 (i : Nat)) := fun n' => (n'.cell HHL.out).trans k1
          have HRG : Hid (∀ W : World, (∃ n' : Over wq.heap.size wq, W = n'.at) → W.rangeAt bk (off + i * 4) [.int .u8 (x.kind : Nat), .string x.text, .int .i64 x.int, .int .i64 (x.at_ : Nat)]) := Lib.hid (by
            rintro W ⟨n', rfl⟩ j v hj
            exact (n'.cell HBK.out).trans (HQC.out j v hj))
          have HSG := Lib.hid (fun W => sign_any x.kind x.text x.int x.at_ W)
          obtain ⟨op, hop⟩ : ∃ z, z = (sgn x.kind x.text.toList).1 := ⟨_, rfl⟩
          obtain ⟨lv, hlv⟩ : ∃ z, z = (sgn x.kind x.text.toList).2 := ⟨_, rfl⟩
          have HPR : Hid (sgn x.kind x.text.toList = (op, lv)) := Lib.hid (by rw [hop, hlv])
          rw [← hop, ← hlv] at HSG
          rw [HPR.out] at HFI
          clear hop hlv k0 k1
          refine wp_region_over (B := wq.heap.size) (by kernel_rfl) (by kernel_rfl) ?_
          repeat (first
            | (go_big_quiet_step (exact Calls.over (Over.size _) ((HSG.out _).mono fun e w' hh => hh)))
            | (refine wpQuiet_load_mid rfl 56 (.tmp 56) rfl bk (off + i * 4) rfl [.int .u8 (x.kind : Nat), .string x.text, .int .i64 x.int, .int .i64 (x.at_ : Nat)] (.struct _) HRG.out Tryz.underlying56 rfl (by kernel_rfl) ?_
               try simp only [Act.put, List.setIfInBounds_toArray, List.set_cons_succ, List.set_cons_zero]))
          refine wpQuiet_nil ?_
          rintro _ ⟨nw, rfl⟩
          have HSN := Lib.hid (And.intro (HS.out.below nw.bel) (HO.out.chg (Chg.of_below nw.bel) HS.out.lt))
          clear HS HO HQC HRG q0 q1 HSG HHL HBK
          generalize nw.at = w2 at *
          have HS2 : Hid (Sd w h L lg w2 (x :: r) false M) := Lib.hid HSN.out.1
          have HO : Hid (Od w w2 A nn c t) := Lib.hid HSN.out.2
          clear HSN
          rcases HFI.out with ⟨hf, hne⟩ | ⟨p, hf, hpr, hT⟩
          · have d5 : ((lv : Int) != 1) = true := by rw [bne_iff_ne]; intro hh; exact hne (by dsimp only; omega)
            have HR : Hid (R = (onB false (x :: r) (.ok t (x :: r) false)).add M) := Lib.hid (by rw [HE.out, leftP, hf])
            have HP : Hid (DPost w h L lg R _ _) := Lib.hid (HS2.out.same HO.out HT.out HR.out)
            clear hf hne
            go_wp2_with fail
            go_ret
            exact HP.out
          · injection hpr with e1 e2
            subst e2
            have d5 : (((1 : Nat) : Int) != 1) = false := by decide
            have he : R = (onB false r ((P n .and_ r).bind fun u l1 => (ofP (tw op) [t, u] l1).bind fun t2 l2 => if (false : Bool) then .ok t2 l2 false else leftP (P n .and_) sOr false j t2 l2)).add M := by
              rw [HE.out, leftP, hf, e1]
              rfl
            have HE := Lib.hid he
            clear hf hT he e1 HPR HFI
            obtain ⟨i', k1, hi', f1, hp⟩ := HS2.out.rd.pass
            have HPS := Lib.hid (And.intro (HS2.out.step (chg_self w2 h 1 (.int .i64 ((i' : Int) + 1))) hp) (HO.out.chg (chg_self w2 h 1 (.int .i64 ((i' : Int) + 1))) HS2.out.lt))
            clear hp HS2 HO
            go_upto_region 14 with fail
            generalize w2.setCell ⟨h, 1, none⟩ (.int .i64 ((i' : Int) + 1)) = w3 at *
            have HS3 : Hid (Sd w h L lg w3 r false M) := Lib.hid HPS.out.1
            have HO3 : Hid (Od w w3 A nn c t) := Lib.hid HPS.out.2
            have HT3 : Hid (t.length ≤ 2048) := HT
            clear HPS k1 f1
            have HNP : Hid (R ≠ .out) := HNE
            have HC := Lib.hid (HS3.out.tree (ih .and_ h r _ false w3 HS3.out.rd (fun hb => bind_ne1 (onB_ne HE.out HNE.out hb))))
            go_wp2_with fail
            refine HC.out.mono ?_
            rintro e w4 ⟨t4, l4, b4, m4, A4, n4, c4, rfl, htl, ho, hs, hc, hsy⟩
            clear HC
            have HL4 : Hid (b4 = false → l4.length < r.length) := Lib.hid fun hb => by
              rcases hsy with ⟨e1, e2⟩ | ⟨e1, e2⟩
              · rw [hb] at e1; cases e1
              · exact (P_len n .and_ _ _ _ _ e2).2
            have he := onB_bind HE.out hsy
            try dsimp only at he
            obtain ⟨M4, hM⟩ : ∃ z, z = (M || m4) := ⟨_, rfl⟩
            rw [← hM] at he hs
            have HE := Lib.hid he
            have HT4 := Lib.hid htl
            have HO4 := Lib.hid ho
            clear he hsy hM htl ho
            have HS4 : Hid (Sd w h L lg w4 l4 b4 M4) := Lib.hid hs
            have HO3 : Hid (Od w w4 A nn c t) := Lib.hid (HO3.out.chg hc HS3.out.lt)
            clear hs hc HS3
            have HSZ : Hid (w.heap.size ≤ w4.heap.size ∧ nn + n4 ≤ 1000000) := Lib.hid ⟨HS4.out.chg.size, by have := HT3.out; have := HT4.out; have := HO3.out.len; have := HO4.out.len; omega⟩
            go_wp2_with (at_builtin; refine wpList_app_tw rfl (.tmp 80) (.tmp 81) rfl w.heap.size nn c n4 c4 A A4 t t4 rfl HO3.out.own rfl HO4.out.len HO4.out.rd HSZ.out.2 HSZ.out.1 ?_; intro A5 c5 w5 ho9 hg9; have HOZ := Lib.hid (And.intro ho9 hg9); clear ho9 hg9)
            have HO5 : Hid (Od w w5 A5 (nn + n4) c5 (t ++ t4)) := Lib.hid ⟨by rw [List.length_append, HO3.out.len, HO4.out.len], HOZ.out.1⟩
            have HS5 : Hid (Sd w h L lg w5 l4 b4 M4) := Lib.hid (HS4.out.grown HO3.out HOZ.out.2)
            have HT5 : Hid ((t ++ t4).length ≤ 200000) := Lib.hid (by rw [List.length_append]; have := HT3.out; have := HT4.out; omega)
            clear HS4 HSZ HOZ
            obtain ⟨t9, m9, h9, h10⟩ := ofP_ok (tw op) [t, t4] l4
            have HF := Lib.hid (HS5.out.top (R := (onB b4 l4 (ofP (tw op) [t, t4] l4)).add M4) (tw op) [t, t4] 2 rfl HO5.out (by have := HT5.out; have := HO5.out.len; omega) (fun _ => ⟨rfl, .inl (by simp)⟩))
            refine HF.out.mono ?_
            rintro e w7 ⟨t7, l7, b7, m7, A7, n7, c7, rfl, htl, ho, hs, hsy⟩
            have HT7 := Lib.hid htl
            have HO7 := Lib.hid ho
            have HS7 := Lib.hid hs
            clear ho hs HF
            have he : R = (onB b7 l7 (leftP (P n .and_) sOr false j t7 l7)).add m7 := by
              have hE := HE.out
              rw [h9] at hE hsy
              unfold onB at hE hsy ⊢
              rcases hsy with ⟨e1, e2⟩ | ⟨e1, e2⟩
              · rw [e1, if_pos rfl]
                cases b4 with
                | true => rw [if_pos rfl] at hE e2; rw [hE, e2]; rfl
                | false => rw [if_neg (by simp)] at e2; cases e2
              · rw [e1, if_neg (by simp)]
                cases b4 with
                | true => rw [if_pos rfl] at e2; cases e2
                | false =>
                  rw [if_neg (by simp)] at hE e2
                  injection e2 with e3 e4 e5
                  rw [hE, Pr.bind_ok, Pr.add_add, e3, e4, e5]
                  rfl
            have hlen : dbud w7 h < dbud wr h := by
              rw [HWR.out.1, HS7.out.bud]
              have hl7 : b7 = false → l7.length < r.length := by
                intro hb7
                rcases hsy with ⟨e1, e2⟩ | ⟨e1, e2⟩
                · rw [hb7] at e1; cases e1
                · have := HL4.out
                  cases b4 with
                  | true => cases e2
                  | false =>
                    rw [h9] at e2
                    unfold onB at e2
                    rw [if_neg (by simp)] at e2
                    injection e2 with e3 e4 e5
                    rw [← e4]
                    exact this rfl
              cases b7 with
              | true => simp
              | false => have := hl7 rfl; simp; omega
            have HE := Lib.hid he
            have HLEN := Lib.hid hlen
            clear he hlen hsy h9 h10 htl
            go_wp2_with fail
            go_roundw
            case rel => exact ⟨A7, n7, c7, t7, l7, b7, m7, j, rfl, HT7.out, HO7.out, HS7.out, HE.out⟩
            case measure => exact HLEN.out
set_option maxRecDepth 100000 in
set_option maxHeartbeats 16000000 in
theorem dlev2_any {n : Nat} {L : List Tz} (ih : NtD L n) (h : Nat) (l : List Tz) (lg b : Bool) (w : World) (hr : StD w h L l b lg) (hne : b = false → (P n .not_ l).bind (leftP (P n .not_) sAnd false n) ≠ .out) :
    Calls Tryz.prog 47 #[gp h, .int .i64 2] w (DPost w h L lg (onB b l ((P n .not_ l).bind (leftP (P n .not_) sAnd false n)))) := by
  have HS0 : Hid (Sd w h L lg w l b false) := Lib.hid (Sd.start hr)
  obtain ⟨R, hR⟩ : ∃ R, R = onB b l ((P n .not_ l).bind (leftP (P n .not_) sAnd false n)) := ⟨_, rfl⟩
  have HNE : Hid (R ≠ .out) := Lib.hid (by rw [hR]; exact onB_out hne)
  rw [← hR]
  have he : R = (onB b l ((P n .not_ l).bind (leftP (P n .not_) sAnd false n))).add false := by rw [hR, Pr.add_false]
  clear hR hr hne
  have HE := Lib.hid he
  clear he
  go_enter Tryz.func47, Tryz.ntmps47
  have HC := Lib.hid (HS0.out.tree (ih .not_ h l _ b w HS0.out.rd (fun hb => bind_ne1 (onB_ne HE.out HNE.out hb))))
  go_wp2_with fail
  refine HC.out.mono ?_
  rintro e w1 ⟨t1, l1, b1, m1, A1, n1, c1, rfl, htl, ho, hs, hc, hsy⟩
  clear HC
  have he := onB_bind HE.out hsy
  try dsimp only at he
  obtain ⟨M1, hM⟩ : ∃ z, z = (false || m1) := ⟨_, rfl⟩
  rw [← hM] at he hs
  have HE := Lib.hid he
  have HT1 := Lib.hid htl
  have HO1 := Lib.hid ho
  clear he hsy hM htl ho
  have HS1 : Hid (Sd w h L lg w1 l1 b1 M1) := Lib.hid hs
  clear hs hc HS0
  go_wp2_with fail
  go_loopw [6] (fun s6 wr => ∃ (A : Option Addr) (nn c : Nat) (t : List Tw) (l : List Tz) (b M : Bool) (j : Nat), s6 = .slice A nn c ∧ t.length ≤ 2048 ∧ Od w wr A nn c t ∧ Sd w h L lg wr l b M ∧ R = (onB b l (leftP (P n .not_) sAnd false j t l)).add M) (fun _ wr => dbud wr h)
  case atStart => exact ⟨A1, n1, c1, t1, l1, b1, M1, n, rfl, HT1.out, HO1.out, HS1.out, HE.out⟩
  case round =>
    clear HE HS1 HO1 HT1
    obtain ⟨A, nn, c, t, l, b, M, j, rfl, htl, ho, hs, he⟩ := hrel
    have HT := Lib.hid htl
    have HO := Lib.hid ho
    have HS := Lib.hid hs
    have HE := Lib.hid he
    clear htl ho hs he
    have k2 := HS.out.rd.bad_cell
    cases b with
    | true =>
      have HD : Hid (∀ q, DPost w h L lg R (.returned (.slice A nn c)) (wr.drewN q)) := Lib.hid fun q => ⟨t, l, true, M, A, nn, c, rfl, HT.out, ⟨HO.out.len, HO.out.own⟩, ⟨HS.out.chg.drewN q, HS.out.rd.drewN q, HS.out.lt⟩, .inl ⟨rfl, HE.out⟩⟩
      go_wp2_with fail
      go_quiet (fail)
      go_wp2_with fail
      go_ret
      exact HD.out nq
    | false =>
      cases j with
      | zero => exact absurd HE.out HNE.out
      | succ j =>
        cases l with
        | nil =>
          obtain ⟨A0, c0, m0, k0, k1, hm0⟩ := HS.out.rd.none_
          have d0 : decide ((m0 : Int) < (m0 : Int)) = false := by simp
          have HR : Hid (R = (onB false [] (.ok t [] false)).add M) := Lib.hid (by rw [HE.out, leftP]; rfl)
          have HD : Hid (∀ q, DPost w h L lg R (.returned (.slice A nn c)) (wr.drewN q)) := Lib.hid fun q => Sd.same ⟨HS.out.chg.drewN q, HS.out.rd.drewN q, HS.out.lt⟩ ⟨HO.out.len, HO.out.own⟩ HT.out HR.out
          go_wp2_with fail
          go_quiet (fail)
          go_wp2_with fail
          go_ret
          exact HD.out nq
        | cons x r =>
          obtain ⟨bk, off, cc, m0, i, k0, k1, hi, hm0, c0, c1, c2, c3⟩ := HS.out.rd.head
          have d0 : decide ((i : Int) < (m0 : Int)) = true := decide_eq_true (by omega)
          have i0 : (0 : Int) ≤ (i : Int) := by omega
          have i1 : (i : Int) < (m0 : Int) := by omega
          have HFI := Lib.hid (sgn_find (k := 2) (v := sAnd) (by decide) x r)
          have HQC := Lib.hid (And.intro c0 (And.intro c1 (And.intro c2 c3)))
          have HDR : Hid (∀ q, Od w (wr.drewN q) A nn c t ∧ Sd w h L lg (wr.drewN q) (x :: r) false M) := Lib.hid fun q => ⟨⟨HO.out.len, HO.out.own⟩, ⟨HS.out.chg.drewN q, HS.out.rd.drewN q, HS.out.lt⟩⟩
          have HHL : Hid (h < wr.heap.size) := Lib.hid HS.out.rd.lt
          have HBK : Hid (bk < wr.heap.size) := Lib.hid (by
            rcases Nat.lt_or_ge bk wr.heap.size with hh | hh
            · exact hh
            · have := HQC.out.1
              unfold World.cell? at this
              rw [Array.getElem?_eq_none hh] at this
              cases this)
          clear c0 c1 c2 c3
          go_wp2_with fail
          go_quiet (fail)
          go_wp2_with fail
          have HO := Lib.hid (HDR.out nq).1
          have HS := Lib.hid (HDR.out nq).2
          have k0 : (wr.drewN nq).cell? ⟨h, 0, none⟩ = some (.slice (some ⟨bk, off, none⟩) m0 cc) := k0
          have k1 : (wr.drewN nq).cell? ⟨h, 1, none⟩ = some (.int .i64 (i : Nat)) := k1
          have HQC : Hid ((wr.drewN nq).rangeAt bk (off + i * 4) [.int .u8 (x.kind : Nat), .string x.text, .int .i64 x.int, .int .i64 (x.at_ : Nat)]) := Lib.hid (by
            intro j v hj
            match j with
            | 0 => have := Option.some.inj hj; subst this; exact HQC.out.1
            | 1 => have := Option.some.inj hj; subst this; exact HQC.out.2.1
            | 2 => have := Option.some.inj hj; subst this; exact HQC.out.2.2.1
            | 3 => have := Option.some.inj hj; subst this; exact HQC.out.2.2.2
            | j + 4 => cases hj)
          have HHL : Hid (h < (wr.drewN nq).heap.size) := HHL
          have HBK : Hid (bk < (wr.drewN nq).heap.size) := HBK
          have HWR : Hid (dbud wr h = r.length + 2 ∧ (wr.drewN nq).heap.size = wr.heap.size) := Lib.hid ⟨HS.out.bud, rfl⟩
          clear k2 HDR
          generalize wr.drewN nq = wq at *
          have q0 : ∀ n' : Over wq.heap.size wq, n'.at.cell? ⟨h, 0, none⟩ = some (.slice (some ⟨bk, off, none⟩) m0 cc) := fun n' => (n'.cell HHL.out).trans k0
          have q1 : ∀ n' : Over wq.heap.size wq, n'.at.cell? ⟨h, 1, none⟩ = some (.int .i64 (i : Nat)) := fun n' => (n'.cell HHL.out).trans k1
          have HRG : Hid (∀ W : World, (∃ n' : Over wq.heap.size wq, W = n'.at) → W.rangeAt bk (off + i * 4) [.int .u8 (x.kind : Nat), .string x.text, .int .i64 x.int, .int .i64 (x.at_ : Nat)]) := Lib.hid (by
            rintro W ⟨n', rfl⟩ j v hj
            exact (n'.cell HBK.out).trans (HQC.out j v hj))
          have HSG := Lib.hid (fun W => sign_any x.kind x.text x.int x.at_ W)
          obtain ⟨op, hop⟩ : ∃ z, z = (sgn x.kind x.text.toList).1 := ⟨_, rfl⟩
          obtain ⟨lv, hlv⟩ : ∃ z, z = (sgn x.kind x.text.toList).2 := ⟨_, rfl⟩
          have HPR : Hid (sgn x.kind x.text.toList = (op, lv)) := Lib.hid (by rw [hop, hlv])
          rw [← hop, ← hlv] at HSG
          rw [HPR.out] at HFI
          clear hop hlv k0 k1
          refine wp_region_over (B := wq.heap.size) (by kernel_rfl) (by kernel_rfl) ?_
          repeat (first
            | (go_big_quiet_step (exact Calls.over (Over.size _) ((HSG.out _).mono fun e w' hh => hh)))
            | (refine wpQuiet_load_mid rfl 56 (.tmp 56) rfl bk (off + i * 4) rfl [.int .u8 (x.kind : Nat), .string x.text, .int .i64 x.int, .int .i64 (x.at_ : Nat)] (.struct _) HRG.out Tryz.underlying56 rfl (by kernel_rfl) ?_
               try simp only [Act.put, List.setIfInBounds_toArray, List.set_cons_succ, List.set_cons_zero]))
          refine wpQuiet_nil ?_
          rintro _ ⟨nw, rfl⟩
          have HSN := Lib.hid (And.intro (HS.out.below nw.bel) (HO.out.chg (Chg.of_below nw.bel) HS.out.lt))
          clear HS HO HQC HRG q0 q1 HSG HHL HBK
          generalize nw.at = w2 at *
          have HS2 : Hid (Sd w h L lg w2 (x :: r) false M) := Lib.hid HSN.out.1
          have HO : Hid (Od w w2 A nn c t) := Lib.hid HSN.out.2
          clear HSN
          rcases HFI.out with ⟨hf, hne⟩ | ⟨p, hf, hpr, hT⟩
          · have d5 : ((lv : Int) != 2) = true := by rw [bne_iff_ne]; intro hh; exact hne (by dsimp only; omega)
            have HR : Hid (R = (onB false (x :: r) (.ok t (x :: r) false)).add M) := Lib.hid (by rw [HE.out, leftP, hf])
            have HP : Hid (DPost w h L lg R _ _) := Lib.hid (HS2.out.same HO.out HT.out HR.out)
            clear hf hne
            go_wp2_with fail
            go_ret
            exact HP.out
          · injection hpr with e1 e2
            subst e2
            have d5 : (((2 : Nat) : Int) != 2) = false := by decide
            have he : R = (onB false r ((P n .not_ r).bind fun u l1 => (ofP (tw op) [t, u] l1).bind fun t2 l2 => if (false : Bool) then .ok t2 l2 false else leftP (P n .not_) sAnd false j t2 l2)).add M := by
              rw [HE.out, leftP, hf, e1]
              rfl
            have HE := Lib.hid he
            clear hf hT he e1 HPR HFI
            obtain ⟨i', k1, hi', f1, hp⟩ := HS2.out.rd.pass
            have HPS := Lib.hid (And.intro (HS2.out.step (chg_self w2 h 1 (.int .i64 ((i' : Int) + 1))) hp) (HO.out.chg (chg_self w2 h 1 (.int .i64 ((i' : Int) + 1))) HS2.out.lt))
            clear hp HS2 HO
            go_upto_region 14 with fail
            generalize w2.setCell ⟨h, 1, none⟩ (.int .i64 ((i' : Int) + 1)) = w3 at *
            have HS3 : Hid (Sd w h L lg w3 r false M) := Lib.hid HPS.out.1
            have HO3 : Hid (Od w w3 A nn c t) := Lib.hid HPS.out.2
            have HT3 : Hid (t.length ≤ 2048) := HT
            clear HPS k1 f1
            have HNP : Hid (R ≠ .out) := HNE
            have HC := Lib.hid (HS3.out.tree (ih .not_ h r _ false w3 HS3.out.rd (fun hb => bind_ne1 (onB_ne HE.out HNE.out hb))))
            go_wp2_with fail
            refine HC.out.mono ?_
            rintro e w4 ⟨t4, l4, b4, m4, A4, n4, c4, rfl, htl, ho, hs, hc, hsy⟩
            clear HC
            have HL4 : Hid (b4 = false → l4.length < r.length) := Lib.hid fun hb => by
              rcases hsy with ⟨e1, e2⟩ | ⟨e1, e2⟩
              · rw [hb] at e1; cases e1
              · exact (P_len n .not_ _ _ _ _ e2).2
            have he := onB_bind HE.out hsy
            try dsimp only at he
            obtain ⟨M4, hM⟩ : ∃ z, z = (M || m4) := ⟨_, rfl⟩
            rw [← hM] at he hs
            have HE := Lib.hid he
            have HT4 := Lib.hid htl
            have HO4 := Lib.hid ho
            clear he hsy hM htl ho
            have HS4 : Hid (Sd w h L lg w4 l4 b4 M4) := Lib.hid hs
            have HO3 : Hid (Od w w4 A nn c t) := Lib.hid (HO3.out.chg hc HS3.out.lt)
            clear hs hc HS3
            have HSZ : Hid (w.heap.size ≤ w4.heap.size ∧ nn + n4 ≤ 1000000) := Lib.hid ⟨HS4.out.chg.size, by have := HT3.out; have := HT4.out; have := HO3.out.len; have := HO4.out.len; omega⟩
            go_wp2_with (at_builtin; refine wpList_app_tw rfl (.tmp 80) (.tmp 81) rfl w.heap.size nn c n4 c4 A A4 t t4 rfl HO3.out.own rfl HO4.out.len HO4.out.rd HSZ.out.2 HSZ.out.1 ?_; intro A5 c5 w5 ho9 hg9; have HOZ := Lib.hid (And.intro ho9 hg9); clear ho9 hg9)
            have HO5 : Hid (Od w w5 A5 (nn + n4) c5 (t ++ t4)) := Lib.hid ⟨by rw [List.length_append, HO3.out.len, HO4.out.len], HOZ.out.1⟩
            have HS5 : Hid (Sd w h L lg w5 l4 b4 M4) := Lib.hid (HS4.out.grown HO3.out HOZ.out.2)
            have HT5 : Hid ((t ++ t4).length ≤ 200000) := Lib.hid (by rw [List.length_append]; have := HT3.out; have := HT4.out; omega)
            clear HS4 HSZ HOZ
            obtain ⟨t9, m9, h9, h10⟩ := ofP_ok (tw op) [t, t4] l4
            have HF := Lib.hid (HS5.out.top (R := (onB b4 l4 (ofP (tw op) [t, t4] l4)).add M4) (tw op) [t, t4] 2 rfl HO5.out (by have := HT5.out; have := HO5.out.len; omega) (fun _ => ⟨rfl, .inl (by simp)⟩))
            refine HF.out.mono ?_
            rintro e w7 ⟨t7, l7, b7, m7, A7, n7, c7, rfl, htl, ho, hs, hsy⟩
            have HT7 := Lib.hid htl
            have HO7 := Lib.hid ho
            have HS7 := Lib.hid hs
            clear ho hs HF
            have he : R = (onB b7 l7 (leftP (P n .not_) sAnd false j t7 l7)).add m7 := by
              have hE := HE.out
              rw [h9] at hE hsy
              unfold onB at hE hsy ⊢
              rcases hsy with ⟨e1, e2⟩ | ⟨e1, e2⟩
              · rw [e1, if_pos rfl]
                cases b4 with
                | true => rw [if_pos rfl] at hE e2; rw [hE, e2]; rfl
                | false => rw [if_neg (by simp)] at e2; cases e2
              · rw [e1, if_neg (by simp)]
                cases b4 with
                | true => rw [if_pos rfl] at e2; cases e2
                | false =>
                  rw [if_neg (by simp)] at hE e2
                  injection e2 with e3 e4 e5
                  rw [hE, Pr.bind_ok, Pr.add_add, e3, e4, e5]
                  rfl
            have hlen : dbud w7 h < dbud wr h := by
              rw [HWR.out.1, HS7.out.bud]
              have hl7 : b7 = false → l7.length < r.length := by
                intro hb7
                rcases hsy with ⟨e1, e2⟩ | ⟨e1, e2⟩
                · rw [hb7] at e1; cases e1
                · have := HL4.out
                  cases b4 with
                  | true => cases e2
                  | false =>
                    rw [h9] at e2
                    unfold onB at e2
                    rw [if_neg (by simp)] at e2
                    injection e2 with e3 e4 e5
                    rw [← e4]
                    exact this rfl
              cases b7 with
              | true => simp
              | false => have := hl7 rfl; simp; omega
            have HE := Lib.hid he
            have HLEN := Lib.hid hlen
            clear he hlen hsy h9 h10 htl
            go_wp2_with fail
            go_roundw
            case rel => exact ⟨A7, n7, c7, t7, l7, b7, m7, j, rfl, HT7.out, HO7.out, HS7.out, HE.out⟩
            case measure => exact HLEN.out
set_option maxRecDepth 100000 in
set_option maxHeartbeats 16000000 in
theorem dlev4_any {n : Nat} {L : List Tz} (ih : NtD L n) (h : Nat) (l : List Tz) (lg b : Bool) (w : World) (hr : StD w h L l b lg) (hne : b = false → (P n .sum l).bind (leftP (P n .sum) sCmp true n) ≠ .out) :
    Calls Tryz.prog 47 #[gp h, .int .i64 4] w (DPost w h L lg (onB b l ((P n .sum l).bind (leftP (P n .sum) sCmp true n)))) := by
  have HS0 : Hid (Sd w h L lg w l b false) := Lib.hid (Sd.start hr)
  obtain ⟨R, hR⟩ : ∃ R, R = onB b l ((P n .sum l).bind (leftP (P n .sum) sCmp true n)) := ⟨_, rfl⟩
  have HNE : Hid (R ≠ .out) := Lib.hid (by rw [hR]; exact onB_out hne)
  rw [← hR]
  have he : R = (onB b l ((P n .sum l).bind (leftP (P n .sum) sCmp true n))).add false := by rw [hR, Pr.add_false]
  clear hR hr hne
  have HE := Lib.hid he
  clear he
  go_enter Tryz.func47, Tryz.ntmps47
  have HC := Lib.hid (HS0.out.tree (ih .sum h l _ b w HS0.out.rd (fun hb => bind_ne1 (onB_ne HE.out HNE.out hb))))
  go_wp2_with fail
  refine HC.out.mono ?_
  rintro e w1 ⟨t1, l1, b1, m1, A1, n1, c1, rfl, htl, ho, hs, hc, hsy⟩
  clear HC
  have he := onB_bind HE.out hsy
  try dsimp only at he
  obtain ⟨M1, hM⟩ : ∃ z, z = (false || m1) := ⟨_, rfl⟩
  rw [← hM] at he hs
  have HE := Lib.hid he
  have HT1 := Lib.hid htl
  have HO1 := Lib.hid ho
  clear he hsy hM htl ho
  have HS1 : Hid (Sd w h L lg w1 l1 b1 M1) := Lib.hid hs
  clear hs hc HS0
  go_wp2_with fail
  go_loopw [6] (fun s6 wr => ∃ (A : Option Addr) (nn c : Nat) (t : List Tw) (l : List Tz) (b M : Bool) (j : Nat), s6 = .slice A nn c ∧ t.length ≤ 2048 ∧ Od w wr A nn c t ∧ Sd w h L lg wr l b M ∧ R = (onB b l (leftP (P n .sum) sCmp true j t l)).add M) (fun _ wr => dbud wr h)
  case atStart => exact ⟨A1, n1, c1, t1, l1, b1, M1, n, rfl, HT1.out, HO1.out, HS1.out, HE.out⟩
  case round =>
    clear HE HS1 HO1 HT1
    obtain ⟨A, nn, c, t, l, b, M, j, rfl, htl, ho, hs, he⟩ := hrel
    have HT := Lib.hid htl
    have HO := Lib.hid ho
    have HS := Lib.hid hs
    have HE := Lib.hid he
    clear htl ho hs he
    have k2 := HS.out.rd.bad_cell
    cases b with
    | true =>
      have HD : Hid (∀ q, DPost w h L lg R (.returned (.slice A nn c)) (wr.drewN q)) := Lib.hid fun q => ⟨t, l, true, M, A, nn, c, rfl, HT.out, ⟨HO.out.len, HO.out.own⟩, ⟨HS.out.chg.drewN q, HS.out.rd.drewN q, HS.out.lt⟩, .inl ⟨rfl, HE.out⟩⟩
      go_wp2_with fail
      go_quiet (fail)
      go_wp2_with fail
      go_ret
      exact HD.out nq
    | false =>
      cases j with
      | zero => exact absurd HE.out HNE.out
      | succ j =>
        cases l with
        | nil =>
          obtain ⟨A0, c0, m0, k0, k1, hm0⟩ := HS.out.rd.none_
          have d0 : decide ((m0 : Int) < (m0 : Int)) = false := by simp
          have HR : Hid (R = (onB false [] (.ok t [] false)).add M) := Lib.hid (by rw [HE.out, leftP]; rfl)
          have HD : Hid (∀ q, DPost w h L lg R (.returned (.slice A nn c)) (wr.drewN q)) := Lib.hid fun q => Sd.same ⟨HS.out.chg.drewN q, HS.out.rd.drewN q, HS.out.lt⟩ ⟨HO.out.len, HO.out.own⟩ HT.out HR.out
          go_wp2_with fail
          go_quiet (fail)
          go_wp2_with fail
          go_ret
          exact HD.out nq
        | cons x r =>
          obtain ⟨bk, off, cc, m0, i, k0, k1, hi, hm0, c0, c1, c2, c3⟩ := HS.out.rd.head
          have d0 : decide ((i : Int) < (m0 : Int)) = true := decide_eq_true (by omega)
          have i0 : (0 : Int) ≤ (i : Int) := by omega
          have i1 : (i : Int) < (m0 : Int) := by omega
          have HFI := Lib.hid (sgn_find (k := 4) (v := sCmp) (by decide) x r)
          have HQC := Lib.hid (And.intro c0 (And.intro c1 (And.intro c2 c3)))
          have HDR : Hid (∀ q, Od w (wr.drewN q) A nn c t ∧ Sd w h L lg (wr.drewN q) (x :: r) false M) := Lib.hid fun q => ⟨⟨HO.out.len, HO.out.own⟩, ⟨HS.out.chg.drewN q, HS.out.rd.drewN q, HS.out.lt⟩⟩
          have HHL : Hid (h < wr.heap.size) := Lib.hid HS.out.rd.lt
          have HBK : Hid (bk < wr.heap.size) := Lib.hid (by
            rcases Nat.lt_or_ge bk wr.heap.size with hh | hh
            · exact hh
            · have := HQC.out.1
              unfold World.cell? at this
              rw [Array.getElem?_eq_none hh] at this
              cases this)
          clear c0 c1 c2 c3
          go_wp2_with fail
          go_quiet (fail)
          go_wp2_with fail
          have HO := Lib.hid (HDR.out nq).1
          have HS := Lib.hid (HDR.out nq).2
          have k0 : (wr.drewN nq).cell? ⟨h, 0, none⟩ = some (.slice (some ⟨bk, off, none⟩) m0 cc) := k0
          have k1 : (wr.drewN nq).cell? ⟨h, 1, none⟩ = some (.int .i64 (i : Nat)) := k1
          have HQC : Hid ((wr.drewN nq).rangeAt bk (off + i * 4) [.int .u8 (x.kind : Nat), .string x.text, .int .i64 x.int, .int .i64 (x.at_ : Nat)]) := Lib.hid (by
            intro j v hj
            match j with
            | 0 => have := Option.some.inj hj; subst this; exact HQC.out.1
            | 1 => have := Option.some.inj hj; subst this; exact HQC.out.2.1
            | 2 => have := Option.some.inj hj; subst this; exact HQC.out.2.2.1
            | 3 => have := Option.some.inj hj; subst this; exact HQC.out.2.2.2
            | j + 4 => cases hj)
          have HHL : Hid (h < (wr.drewN nq).heap.size) := HHL
          have HBK : Hid (bk < (wr.drewN nq).heap.size) := HBK
          have HWR : Hid (dbud wr h = r.length + 2 ∧ (wr.drewN nq).heap.size = wr.heap.size) := Lib.hid ⟨HS.out.bud, rfl⟩
          clear k2 HDR
          generalize wr.drewN nq = wq at *
          have q0 : ∀ n' : Over wq.heap.size wq, n'.at.cell? ⟨h, 0, none⟩ = some (.slice (some ⟨bk, off, none⟩) m0 cc) := fun n' => (n'.cell HHL.out).trans k0
          have q1 : ∀ n' : Over wq.heap.size wq, n'.at.cell? ⟨h, 1, none⟩ = some (.int .i64 (i : Nat)) := fun n' => (n'.cell HHL.out).trans k1
          have HRG : Hid (∀ W : World, (∃ n' : Over wq.heap.size wq, W = n'.at) → W.rangeAt bk (off + i * 4) [.int .u8 (x.kind : Nat), .string x.text, .int .i64 x.int, .int .i64 (x.at_ : Nat)]) := Lib.hid (by
            rintro W ⟨n', rfl⟩ j v hj
            exact (n'.cell HBK.out).trans (HQC.out j v hj))
          have HSG := Lib.hid (fun W => sign_any x.kind x.text x.int x.at_ W)
          obtain ⟨op, hop⟩ : ∃ z, z = (sgn x.kind x.text.toList).1 := ⟨_, rfl⟩
          obtain ⟨lv, hlv⟩ : ∃ z, z = (sgn x.kind x.text.toList).2 := ⟨_, rfl⟩
          have HPR : Hid (sgn x.kind x.text.toList = (op, lv)) := Lib.hid (by rw [hop, hlv])
          rw [← hop, ← hlv] at HSG
          rw [HPR.out] at HFI
          clear hop hlv k0 k1
          refine wp_region_over (B := wq.heap.size) (by kernel_rfl) (by kernel_rfl) ?_
          repeat (first
            | (go_big_quiet_step (exact Calls.over (Over.size _) ((HSG.out _).mono fun e w' hh => hh)))
            | (refine wpQuiet_load_mid rfl 56 (.tmp 56) rfl bk (off + i * 4) rfl [.int .u8 (x.kind : Nat), .string x.text, .int .i64 x.int, .int .i64 (x.at_ : Nat)] (.struct _) HRG.out Tryz.underlying56 rfl (by kernel_rfl) ?_
               try simp only [Act.put, List.setIfInBounds_toArray, List.set_cons_succ, List.set_cons_zero]))
          refine wpQuiet_nil ?_
          rintro _ ⟨nw, rfl⟩
          have HSN := Lib.hid (And.intro (HS.out.below nw.bel) (HO.out.chg (Chg.of_below nw.bel) HS.out.lt))
          clear HS HO HQC HRG q0 q1 HSG HHL HBK
          generalize nw.at = w2 at *
          have HS2 : Hid (Sd w h L lg w2 (x :: r) false M) := Lib.hid HSN.out.1
          have HO : Hid (Od w w2 A nn c t) := Lib.hid HSN.out.2
          clear HSN
          rcases HFI.out with ⟨hf, hne⟩ | ⟨p, hf, hpr, hT⟩
          · have d5 : ((lv : Int) != 4) = true := by rw [bne_iff_ne]; intro hh; exact hne (by dsimp only; omega)
            have HR : Hid (R = (onB false (x :: r) (.ok t (x :: r) false)).add M) := Lib.hid (by rw [HE.out, leftP, hf])
            have HP : Hid (DPost w h L lg R _ _) := Lib.hid (HS2.out.same HO.out HT.out HR.out)
            clear hf hne
            go_wp2_with fail
            go_ret
            exact HP.out
          · injection hpr with e1 e2
            subst e2
            have d5 : (((4 : Nat) : Int) != 4) = false := by decide
            have he : R = (onB false r ((P n .sum r).bind fun u l1 => (ofP (tw op) [t, u] l1).bind fun t2 l2 => if (true : Bool) then .ok t2 l2 false else leftP (P n .sum) sCmp true j t2 l2)).add M := by
              rw [HE.out, leftP, hf, e1]
              rfl
            have HE := Lib.hid he
            clear hf hT he e1 HPR HFI
            obtain ⟨i', k1, hi', f1, hp⟩ := HS2.out.rd.pass
            have HPS := Lib.hid (And.intro (HS2.out.step (chg_self w2 h 1 (.int .i64 ((i' : Int) + 1))) hp) (HO.out.chg (chg_self w2 h 1 (.int .i64 ((i' : Int) + 1))) HS2.out.lt))
            clear hp HS2 HO
            go_upto_region 14 with fail
            generalize w2.setCell ⟨h, 1, none⟩ (.int .i64 ((i' : Int) + 1)) = w3 at *
            have HS3 : Hid (Sd w h L lg w3 r false M) := Lib.hid HPS.out.1
            have HO3 : Hid (Od w w3 A nn c t) := Lib.hid HPS.out.2
            have HT3 : Hid (t.length ≤ 2048) := HT
            clear HPS k1 f1
            have HNP : Hid (R ≠ .out) := HNE
            have HC := Lib.hid (HS3.out.tree (ih .sum h r _ false w3 HS3.out.rd (fun hb => bind_ne1 (onB_ne HE.out HNE.out hb))))
            go_wp2_with fail
            refine HC.out.mono ?_
            rintro e w4 ⟨t4, l4, b4, m4, A4, n4, c4, rfl, htl, ho, hs, hc, hsy⟩
            clear HC
            have he := onB_bind HE.out hsy
            try dsimp only at he
            obtain ⟨M4, hM⟩ : ∃ z, z = (M || m4) := ⟨_, rfl⟩
            rw [← hM] at he hs
            have HE := Lib.hid he
            have HT4 := Lib.hid htl
            have HO4 := Lib.hid ho
            clear he hsy hM htl ho
            have HS4 : Hid (Sd w h L lg w4 l4 b4 M4) := Lib.hid hs
            have HO3 : Hid (Od w w4 A nn c t) := Lib.hid (HO3.out.chg hc HS3.out.lt)
            clear hs hc HS3
            have HSZ : Hid (w.heap.size ≤ w4.heap.size ∧ nn + n4 ≤ 1000000) := Lib.hid ⟨HS4.out.chg.size, by have := HT3.out; have := HT4.out; have := HO3.out.len; have := HO4.out.len; omega⟩
            go_wp2_with (at_builtin; refine wpList_app_tw rfl (.tmp 80) (.tmp 81) rfl w.heap.size nn c n4 c4 A A4 t t4 rfl HO3.out.own rfl HO4.out.len HO4.out.rd HSZ.out.2 HSZ.out.1 ?_; intro A5 c5 w5 ho9 hg9; have HOZ := Lib.hid (And.intro ho9 hg9); clear ho9 hg9)
            have HO5 : Hid (Od w w5 A5 (nn + n4) c5 (t ++ t4)) := Lib.hid ⟨by rw [List.length_append, HO3.out.len, HO4.out.len], HOZ.out.1⟩
            have HS5 : Hid (Sd w h L lg w5 l4 b4 M4) := Lib.hid (HS4.out.grown HO3.out HOZ.out.2)
            have HT5 : Hid ((t ++ t4).length ≤ 200000) := Lib.hid (by rw [List.length_append]; have := HT3.out; have := HT4.out; omega)
            clear HS4 HSZ HOZ
            obtain ⟨t9, m9, h9, h10⟩ := ofP_ok (tw op) [t, t4] l4
            have HF := Lib.hid (HS5.out.top (R := (onB b4 l4 (ofP (tw op) [t, t4] l4)).add M4) (tw op) [t, t4] 2 rfl HO5.out (by have := HT5.out; have := HO5.out.len; omega) (fun _ => ⟨rfl, .inl (by simp)⟩))
            refine HF.out.mono ?_
            rintro e w7 ⟨t7, l7, b7, m7, A7, n7, c7, rfl, htl, ho, hs, hsy⟩
            have HT7 := Lib.hid htl
            have HO7 := Lib.hid ho
            have HS7 := Lib.hid hs
            clear ho hs HF
            have HD : Hid (DPost w h L lg R (.returned (.slice A7 n7 c7)) w7) := Lib.hid ⟨t7, l7, b7, m7, A7, n7, c7, rfl, HT7.out, HO7.out, HS7.out, by
              have hE := HE.out
              rw [h9] at hE hsy
              unfold onB at hE hsy
              rcases hsy with ⟨e1, e2⟩ | ⟨e1, e2⟩
              · left
                refine ⟨e1, ?_⟩
                cases b4 with
                | true => rw [if_pos rfl] at hE e2; rw [hE]; exact e2
                | false => rw [if_neg (by simp)] at e2; cases e2
              · right
                refine ⟨e1, ?_⟩
                cases b4 with
                | true => rw [if_pos rfl] at e2; cases e2
                | false =>
                  rw [if_neg (by simp)] at hE e2
                  rw [hE, Pr.bind_ok, Pr.add_add, ← e2]
                  show Pr.ok t9 _ ((M4 || m9) || false) = _
                  rw [Bool.or_false]
                  rfl⟩
            clear hsy h9 h10 htl
            go_wp2_with fail
            go_ret
            exact HD.out
set_option maxRecDepth 100000 in
set_option maxHeartbeats 16000000 in
theorem dlev5_any {n : Nat} {L : List Tz} (ih : NtD L n) (h : Nat) (l : List Tz) (lg b : Bool) (w : World) (hr : StD w h L l b lg) (hne : b = false → (P n .term l).bind (leftP (P n .term) sSum false n) ≠ .out) :
    Calls Tryz.prog 47 #[gp h, .int .i64 5] w (DPost w h L lg (onB b l ((P n .term l).bind (leftP (P n .term) sSum false n)))) := by
  have HS0 : Hid (Sd w h L lg w l b false) := Lib.hid (Sd.start hr)
  obtain ⟨R, hR⟩ : ∃ R, R = onB b l ((P n .term l).bind (leftP (P n .term) sSum false n)) := ⟨_, rfl⟩
  have HNE : Hid (R ≠ .out) := Lib.hid (by rw [hR]; exact onB_out hne)
  rw [← hR]
  have he : R = (onB b l ((P n .term l).bind (leftP (P n .term) sSum false n))).add false := by rw [hR, Pr.add_false]
  clear hR hr hne
  have HE := Lib.hid he
  clear he
  go_enter Tryz.func47, Tryz.ntmps47
  have HC := Lib.hid (HS0.out.tree (ih .term h l _ b w HS0.out.rd (fun hb => bind_ne1 (onB_ne HE.out HNE.out hb))))
  go_wp2_with fail
  refine HC.out.mono ?_
  rintro e w1 ⟨t1, l1, b1, m1, A1, n1, c1, rfl, htl, ho, hs, hc, hsy⟩
  clear HC
  have he := onB_bind HE.out hsy
  try dsimp only at he
  obtain ⟨M1, hM⟩ : ∃ z, z = (false || m1) := ⟨_, rfl⟩
  rw [← hM] at he hs
  have HE := Lib.hid he
  have HT1 := Lib.hid htl
  have HO1 := Lib.hid ho
  clear he hsy hM htl ho
  have HS1 : Hid (Sd w h L lg w1 l1 b1 M1) := Lib.hid hs
  clear hs hc HS0
  go_wp2_with fail
  go_loopw [6] (fun s6 wr => ∃ (A : Option Addr) (nn c : Nat) (t : List Tw) (l : List Tz) (b M : Bool) (j : Nat), s6 = .slice A nn c ∧ t.length ≤ 2048 ∧ Od w wr A nn c t ∧ Sd w h L lg wr l b M ∧ R = (onB b l (leftP (P n .term) sSum false j t l)).add M) (fun _ wr => dbud wr h)
  case atStart => exact ⟨A1, n1, c1, t1, l1, b1, M1, n, rfl, HT1.out, HO1.out, HS1.out, HE.out⟩
  case round =>
    clear HE HS1 HO1 HT1
    obtain ⟨A, nn, c, t, l, b, M, j, rfl, htl, ho, hs, he⟩ := hrel
    have HT := Lib.hid htl
    have HO := Lib.hid ho
    have HS := Lib.hid hs
    have HE := Lib.hid he
    clear htl ho hs he
    have k2 := HS.out.rd.bad_cell
    cases b with
    | true =>
      have HD : Hid (∀ q, DPost w h L lg R (.returned (.slice A nn c)) (wr.drewN q)) := Lib.hid fun q => ⟨t, l, true, M, A, nn, c, rfl, HT.out, ⟨HO.out.len, HO.out.own⟩, ⟨HS.out.chg.drewN q, HS.out.rd.drewN q, HS.out.lt⟩, .inl ⟨rfl, HE.out⟩⟩
      go_wp2_with fail
      go_quiet (fail)
      go_wp2_with fail
      go_ret
      exact HD.out nq
    | false =>
      cases j with
      | zero => exact absurd HE.out HNE.out
      | succ j =>
        cases l with
        | nil =>
          obtain ⟨A0, c0, m0, k0, k1, hm0⟩ := HS.out.rd.none_
          have d0 : decide ((m0 : Int) < (m0 : Int)) = false := by simp
          have HR : Hid (R = (onB false [] (.ok t [] false)).add M) := Lib.hid (by rw [HE.out, leftP]; rfl)
          have HD : Hid (∀ q, DPost w h L lg R (.returned (.slice A nn c)) (wr.drewN q)) := Lib.hid fun q => Sd.same ⟨HS.out.chg.drewN q, HS.out.rd.drewN q, HS.out.lt⟩ ⟨HO.out.len, HO.out.own⟩ HT.out HR.out
          go_wp2_with fail
          go_quiet (fail)
          go_wp2_with fail
          go_ret
          exact HD.out nq
        | cons x r =>
          obtain ⟨bk, off, cc, m0, i, k0, k1, hi, hm0, c0, c1, c2, c3⟩ := HS.out.rd.head
          have d0 : decide ((i : Int) < (m0 : Int)) = true := decide_eq_true (by omega)
          have i0 : (0 : Int) ≤ (i : Int) := by omega
          have i1 : (i : Int) < (m0 : Int) := by omega
          have HFI := Lib.hid (sgn_find (k := 5) (v := sSum) (by decide) x r)
          have HQC := Lib.hid (And.intro c0 (And.intro c1 (And.intro c2 c3)))
          have HDR : Hid (∀ q, Od w (wr.drewN q) A nn c t ∧ Sd w h L lg (wr.drewN q) (x :: r) false M) := Lib.hid fun q => ⟨⟨HO.out.len, HO.out.own⟩, ⟨HS.out.chg.drewN q, HS.out.rd.drewN q, HS.out.lt⟩⟩
          have HHL : Hid (h < wr.heap.size) := Lib.hid HS.out.rd.lt
          have HBK : Hid (bk < wr.heap.size) := Lib.hid (by
            rcases Nat.lt_or_ge bk wr.heap.size with hh | hh
            · exact hh
            · have := HQC.out.1
              unfold World.cell? at this
              rw [Array.getElem?_eq_none hh] at this
              cases this)
          clear c0 c1 c2 c3
          go_wp2_with fail
          go_quiet (fail)
          go_wp2_with fail
          have HO := Lib.hid (HDR.out nq).1
          have HS := Lib.hid (HDR.out nq).2
          have k0 : (wr.drewN nq).cell? ⟨h, 0, none⟩ = some (.slice (some ⟨bk, off, none⟩) m0 cc) := k0
          have k1 : (wr.drewN nq).cell? ⟨h, 1, none⟩ = some (.int .i64 (i : Nat)) := k1
          have HQC : Hid ((wr.drewN nq).rangeAt bk (off + i * 4) [.int .u8 (x.kind : Nat), .string x.text, .int .i64 x.int, .int .i64 (x.at_ : Nat)]) := Lib.hid (by
            intro j v hj
            match j with
            | 0 => have := Option.some.inj hj; subst this; exact HQC.out.1
            | 1 => have := Option.some.inj hj; subst this; exact HQC.out.2.1
            | 2 => have := Option.some.inj hj; subst this; exact HQC.out.2.2.1
            | 3 => have := Option.some.inj hj; subst this; exact HQC.out.2.2.2
            | j + 4 => cases hj)
          have HHL : Hid (h < (wr.drewN nq).heap.size) := HHL
          have HBK : Hid (bk < (wr.drewN nq).heap.size) := HBK
          have HWR : Hid (dbud wr h = r.length + 2 ∧ (wr.drewN nq).heap.size = wr.heap.size) := Lib.hid ⟨HS.out.bud, rfl⟩
          clear k2 HDR
          generalize wr.drewN nq = wq at *
          have q0 : ∀ n' : Over wq.heap.size wq, n'.at.cell? ⟨h, 0, none⟩ = some (.slice (some ⟨bk, off, none⟩) m0 cc) := fun n' => (n'.cell HHL.out).trans k0
          have q1 : ∀ n' : Over wq.heap.size wq, n'.at.cell? ⟨h, 1, none⟩ = some (.int .i64 (i : Nat)) := fun n' => (n'.cell HHL.out).trans k1
          have HRG : Hid (∀ W : World, (∃ n' : Over wq.heap.size wq, W = n'.at) → W.rangeAt bk (off + i * 4) [.int .u8 (x.kind : Nat), .string x.text, .int .i64 x.int, .int .i64 (x.at_ : Nat)]) := Lib.hid (by
            rintro W ⟨n', rfl⟩ j v hj
            exact (n'.cell HBK.out).trans (HQC.out j v hj))
          have HSG := Lib.hid (fun W => sign_any x.kind x.text x.int x.at_ W)
          obtain ⟨op, hop⟩ : ∃ z, z = (sgn x.kind x.text.toList).1 := ⟨_, rfl⟩
          obtain ⟨lv, hlv⟩ : ∃ z, z = (sgn x.kind x.text.toList).2 := ⟨_, rfl⟩
          have HPR : Hid (sgn x.kind x.text.toList = (op, lv)) := Lib.hid (by rw [hop, hlv])
          rw [← hop, ← hlv] at HSG
          rw [HPR.out] at HFI
          clear hop hlv k0 k1
          refine wp_region_over (B := wq.heap.size) (by kernel_rfl) (by kernel_rfl) ?_
          repeat (first
            | (go_big_quiet_step (exact Calls.over (Over.size _) ((HSG.out _).mono fun e w' hh => hh)))
            | (refine wpQuiet_load_mid rfl 56 (.tmp 56) rfl bk (off + i * 4) rfl [.int .u8 (x.kind : Nat), .string x.text, .int .i64 x.int, .int .i64 (x.at_ : Nat)] (.struct _) HRG.out Tryz.underlying56 rfl (by kernel_rfl) ?_
               try simp only [Act.put, List.setIfInBounds_toArray, List.set_cons_succ, List.set_cons_zero]))
          refine wpQuiet_nil ?_
          rintro _ ⟨nw, rfl⟩
          have HSN := Lib.hid (And.intro (HS.out.below nw.bel) (HO.out.chg (Chg.of_below nw.bel) HS.out.lt))
          clear HS HO HQC HRG q0 q1 HSG HHL HBK
          generalize nw.at = w2 at *
          have HS2 : Hid (Sd w h L lg w2 (x :: r) false M) := Lib.hid HSN.out.1
          have HO : Hid (Od w w2 A nn c t) := Lib.hid HSN.out.2
          clear HSN
          rcases HFI.out with ⟨hf, hne⟩ | ⟨p, hf, hpr, hT⟩
          · have d5 : ((lv : Int) != 5) = true := by rw [bne_iff_ne]; intro hh; exact hne (by dsimp only; omega)
            have HR : Hid (R = (onB false (x :: r) (.ok t (x :: r) false)).add M) := Lib.hid (by rw [HE.out, leftP, hf])
            have HP : Hid (DPost w h L lg R _ _) := Lib.hid (HS2.out.same HO.out HT.out HR.out)
            clear hf hne
            go_wp2_with fail
            go_ret
            exact HP.out
          · injection hpr with e1 e2
            subst e2
            have d5 : (((5 : Nat) : Int) != 5) = false := by decide
            have he : R = (onB false r ((P n .term r).bind fun u l1 => (ofP (tw op) [t, u] l1).bind fun t2 l2 => if (false : Bool) then .ok t2 l2 false else leftP (P n .term) sSum false j t2 l2)).add M := by
              rw [HE.out, leftP, hf, e1]
              rfl
            have HE := Lib.hid he
            clear hf hT he e1 HPR HFI
            obtain ⟨i', k1, hi', f1, hp⟩ := HS2.out.rd.pass
            have HPS := Lib.hid (And.intro (HS2.out.step (chg_self w2 h 1 (.int .i64 ((i' : Int) + 1))) hp) (HO.out.chg (chg_self w2 h 1 (.int .i64 ((i' : Int) + 1))) HS2.out.lt))
            clear hp HS2 HO
            go_upto_region 14 with fail
            generalize w2.setCell ⟨h, 1, none⟩ (.int .i64 ((i' : Int) + 1)) = w3 at *
            have HS3 : Hid (Sd w h L lg w3 r false M) := Lib.hid HPS.out.1
            have HO3 : Hid (Od w w3 A nn c t) := Lib.hid HPS.out.2
            have HT3 : Hid (t.length ≤ 2048) := HT
            clear HPS k1 f1
            have HNP : Hid (R ≠ .out) := HNE
            have HC := Lib.hid (HS3.out.tree (ih .term h r _ false w3 HS3.out.rd (fun hb => bind_ne1 (onB_ne HE.out HNE.out hb))))
            go_wp2_with fail
            refine HC.out.mono ?_
            rintro e w4 ⟨t4, l4, b4, m4, A4, n4, c4, rfl, htl, ho, hs, hc, hsy⟩
            clear HC
            have HL4 : Hid (b4 = false → l4.length < r.length) := Lib.hid fun hb => by
              rcases hsy with ⟨e1, e2⟩ | ⟨e1, e2⟩
              · rw [hb] at e1; cases e1
              · exact (P_len n .term _ _ _ _ e2).2
            have he := onB_bind HE.out hsy
            try dsimp only at he
            obtain ⟨M4, hM⟩ : ∃ z, z = (M || m4) := ⟨_, rfl⟩
            rw [← hM] at he hs
            have HE := Lib.hid he
            have HT4 := Lib.hid htl
            have HO4 := Lib.hid ho
            clear he hsy hM htl ho
            have HS4 : Hid (Sd w h L lg w4 l4 b4 M4) := Lib.hid hs
            have HO3 : Hid (Od w w4 A nn c t) := Lib.hid (HO3.out.chg hc HS3.out.lt)
            clear hs hc HS3
            have HSZ : Hid (w.heap.size ≤ w4.heap.size ∧ nn + n4 ≤ 1000000) := Lib.hid ⟨HS4.out.chg.size, by have := HT3.out; have := HT4.out; have := HO3.out.len; have := HO4.out.len; omega⟩
            go_wp2_with (at_builtin; refine wpList_app_tw rfl (.tmp 80) (.tmp 81) rfl w.heap.size nn c n4 c4 A A4 t t4 rfl HO3.out.own rfl HO4.out.len HO4.out.rd HSZ.out.2 HSZ.out.1 ?_; intro A5 c5 w5 ho9 hg9; have HOZ := Lib.hid (And.intro ho9 hg9); clear ho9 hg9)
            have HO5 : Hid (Od w w5 A5 (nn + n4) c5 (t ++ t4)) := Lib.hid ⟨by rw [List.length_append, HO3.out.len, HO4.out.len], HOZ.out.1⟩
            have HS5 : Hid (Sd w h L lg w5 l4 b4 M4) := Lib.hid (HS4.out.grown HO3.out HOZ.out.2)
            have HT5 : Hid ((t ++ t4).length ≤ 200000) := Lib.hid (by rw [List.length_append]; have := HT3.out; have := HT4.out; omega)
            clear HS4 HSZ HOZ
            obtain ⟨t9, m9, h9, h10⟩ := ofP_ok (tw op) [t, t4] l4
            have HF := Lib.hid (HS5.out.top (R := (onB b4 l4 (ofP (tw op) [t, t4] l4)).add M4) (tw op) [t, t4] 2 rfl HO5.out (by have := HT5.out; have := HO5.out.len; omega) (fun _ => ⟨rfl, .inl (by simp)⟩))
            refine HF.out.mono ?_
            rintro e w7 ⟨t7, l7, b7, m7, A7, n7, c7, rfl, htl, ho, hs, hsy⟩
            have HT7 := Lib.hid htl
            have HO7 := Lib.hid ho
            have HS7 := Lib.hid hs
            clear ho hs HF
            have he : R = (onB b7 l7 (leftP (P n .term) sSum false j t7 l7)).add m7 := by
              have hE := HE.out
              rw [h9] at hE hsy
              unfold onB at hE hsy ⊢
              rcases hsy with ⟨e1, e2⟩ | ⟨e1, e2⟩
              · rw [e1, if_pos rfl]
                cases b4 with
                | true => rw [if_pos rfl] at hE e2; rw [hE, e2]; rfl
                | false => rw [if_neg (by simp)] at e2; cases e2
              · rw [e1, if_neg (by simp)]
                cases b4 with
                | true => rw [if_pos rfl] at e2; cases e2
                | false =>
                  rw [if_neg (by simp)] at hE e2
                  injection e2 with e3 e4 e5
                  rw [hE, Pr.bind_ok, Pr.add_add, e3, e4, e5]
                  rfl
            have hlen : dbud w7 h < dbud wr h := by
              rw [HWR.out.1, HS7.out.bud]
              have hl7 : b7 = false → l7.length < r.length := by
                intro hb7
                rcases hsy with ⟨e1, e2⟩ | ⟨e1, e2⟩
                · rw [hb7] at e1; cases e1
                · have := HL4.out
                  cases b4 with
                  | true => cases e2
                  | false =>
                    rw [h9] at e2
                    unfold onB at e2
                    rw [if_neg (by simp)] at e2
                    injection e2 with e3 e4 e5
                    rw [← e4]
                    exact this rfl
              cases b7 with
              | true => simp
              | false => have := hl7 rfl; simp; omega
            have HE := Lib.hid he
            have HLEN := Lib.hid hlen
            clear he hlen hsy h9 h10 htl
            go_wp2_with fail
            go_roundw
            case rel => exact ⟨A7, n7, c7, t7, l7, b7, m7, j, rfl, HT7.out, HO7.out, HS7.out, HE.out⟩
            case measure => exact HLEN.out
set_option maxRecDepth 100000 in
set_option maxHeartbeats 16000000 in
theorem dlev6_any {n : Nat} {L : List Tz} (ih : NtD L n) (h : Nat) (l : List Tz) (lg b : Bool) (w : World) (hr : StD w h L l b lg) (hne : b = false → (P n .pre l).bind (leftP (P n .pre) sTerm false n) ≠ .out) :
    Calls Tryz.prog 47 #[gp h, .int .i64 6] w (DPost w h L lg (onB b l ((P n .pre l).bind (leftP (P n .pre) sTerm false n)))) := by
  have HS0 : Hid (Sd w h L lg w l b false) := Lib.hid (Sd.start hr)
  obtain ⟨R, hR⟩ : ∃ R, R = onB b l ((P n .pre l).bind (leftP (P n .pre) sTerm false n)) := ⟨_, rfl⟩
  have HNE : Hid (R ≠ .out) := Lib.hid (by rw [hR]; exact onB_out hne)
  rw [← hR]
  have he : R = (onB b l ((P n .pre l).bind (leftP (P n .pre) sTerm false n))).add false := by rw [hR, Pr.add_false]
  clear hR hr hne
  have HE := Lib.hid he
  clear he
  go_enter Tryz.func47, Tryz.ntmps47
  have HC := Lib.hid (HS0.out.tree (dlev7_any ih h l _ b w HS0.out.rd (fun hb => bind_ne1 (onB_ne HE.out HNE.out hb))))
  go_wp2_with fail
  refine HC.out.mono ?_
  rintro e w1 ⟨t1, l1, b1, m1, A1, n1, c1, rfl, htl, ho, hs, hc, hsy⟩
  clear HC
  have he := onB_bind HE.out hsy
  try dsimp only at he
  obtain ⟨M1, hM⟩ : ∃ z, z = (false || m1) := ⟨_, rfl⟩
  rw [← hM] at he hs
  have HE := Lib.hid he
  have HT1 := Lib.hid htl
  have HO1 := Lib.hid ho
  clear he hsy hM htl ho
  have HS1 : Hid (Sd w h L lg w1 l1 b1 M1) := Lib.hid hs
  clear hs hc HS0
  go_wp2_with fail
  go_loopw [6] (fun s6 wr => ∃ (A : Option Addr) (nn c : Nat) (t : List Tw) (l : List Tz) (b M : Bool) (j : Nat), s6 = .slice A nn c ∧ t.length ≤ 2048 ∧ Od w wr A nn c t ∧ Sd w h L lg wr l b M ∧ R = (onB b l (leftP (P n .pre) sTerm false j t l)).add M) (fun _ wr => dbud wr h)
  case atStart => exact ⟨A1, n1, c1, t1, l1, b1, M1, n, rfl, HT1.out, HO1.out, HS1.out, HE.out⟩
  case round =>
    clear HE HS1 HO1 HT1
    obtain ⟨A, nn, c, t, l, b, M, j, rfl, htl, ho, hs, he⟩ := hrel
    have HT := Lib.hid htl
    have HO := Lib.hid ho
    have HS := Lib.hid hs
    have HE := Lib.hid he
    clear htl ho hs he
    have k2 := HS.out.rd.bad_cell
    cases b with
    | true =>
      have HD : Hid (∀ q, DPost w h L lg R (.returned (.slice A nn c)) (wr.drewN q)) := Lib.hid fun q => ⟨t, l, true, M, A, nn, c, rfl, HT.out, ⟨HO.out.len, HO.out.own⟩, ⟨HS.out.chg.drewN q, HS.out.rd.drewN q, HS.out.lt⟩, .inl ⟨rfl, HE.out⟩⟩
      go_wp2_with fail
      go_quiet (fail)
      go_wp2_with fail
      go_ret
      exact HD.out nq
    | false =>
      cases j with
      | zero => exact absurd HE.out HNE.out
      | succ j =>
        cases l with
        | nil =>
          obtain ⟨A0, c0, m0, k0, k1, hm0⟩ := HS.out.rd.none_
          have d0 : decide ((m0 : Int) < (m0 : Int)) = false := by simp
          have HR : Hid (R = (onB false [] (.ok t [] false)).add M) := Lib.hid (by rw [HE.out, leftP]; rfl)
          have HD : Hid (∀ q, DPost w h L lg R (.returned (.slice A nn c)) (wr.drewN q)) := Lib.hid fun q => Sd.same ⟨HS.out.chg.drewN q, HS.out.rd.drewN q, HS.out.lt⟩ ⟨HO.out.len, HO.out.own⟩ HT.out HR.out
          go_wp2_with fail
          go_quiet (fail)
          go_wp2_with fail
          go_ret
          exact HD.out nq
        | cons x r =>
          obtain ⟨bk, off, cc, m0, i, k0, k1, hi, hm0, c0, c1, c2, c3⟩ := HS.out.rd.head
          have d0 : decide ((i : Int) < (m0 : Int)) = true := decide_eq_true (by omega)
          have i0 : (0 : Int) ≤ (i : Int) := by omega
          have i1 : (i : Int) < (m0 : Int) := by omega
          have HFI := Lib.hid (sgn_find (k := 6) (v := sTerm) (by decide) x r)
          have HQC := Lib.hid (And.intro c0 (And.intro c1 (And.intro c2 c3)))
          have HDR : Hid (∀ q, Od w (wr.drewN q) A nn c t ∧ Sd w h L lg (wr.drewN q) (x :: r) false M) := Lib.hid fun q => ⟨⟨HO.out.len, HO.out.own⟩, ⟨HS.out.chg.drewN q, HS.out.rd.drewN q, HS.out.lt⟩⟩
          have HHL : Hid (h < wr.heap.size) := Lib.hid HS.out.rd.lt
          have HBK : Hid (bk < wr.heap.size) := Lib.hid (by
            rcases Nat.lt_or_ge bk wr.heap.size with hh | hh
            · exact hh
            · have := HQC.out.1
              unfold World.cell? at this
              rw [Array.getElem?_eq_none hh] at this
              cases this)
          clear c0 c1 c2 c3
          go_wp2_with fail
          go_quiet (fail)
          go_wp2_with fail
          have HO := Lib.hid (HDR.out nq).1
          have HS := Lib.hid (HDR.out nq).2
          have k0 : (wr.drewN nq).cell? ⟨h, 0, none⟩ = some (.slice (some ⟨bk, off, none⟩) m0 cc) := k0
          have k1 : (wr.drewN nq).cell? ⟨h, 1, none⟩ = some (.int .i64 (i : Nat)) := k1
          have HQC : Hid ((wr.drewN nq).rangeAt bk (off + i * 4) [.int .u8 (x.kind : Nat), .string x.text, .int .i64 x.int, .int .i64 (x.at_ : Nat)]) := Lib.hid (by
            intro j v hj
            match j with
            | 0 => have := Option.some.inj hj; subst this; exact HQC.out.1
            | 1 => have := Option.some.inj hj; subst this; exact HQC.out.2.1
            | 2 => have := Option.some.inj hj; subst this; exact HQC.out.2.2.1
            | 3 => have := Option.some.inj hj; subst this; exact HQC.out.2.2.2
            | j + 4 => cases hj)
          have HHL : Hid (h < (wr.drewN nq).heap.size) := HHL
          have HBK : Hid (bk < (wr.drewN nq).heap.size) := HBK
          have HWR : Hid (dbud wr h = r.length + 2 ∧ (wr.drewN nq).heap.size = wr.heap.size) := Lib.hid ⟨HS.out.bud, rfl⟩
          clear k2 HDR
          generalize wr.drewN nq = wq at *
          have q0 : ∀ n' : Over wq.heap.size wq, n'.at.cell? ⟨h, 0, none⟩ = some (.slice (some ⟨bk, off, none⟩) m0 cc) := fun n' => (n'.cell HHL.out).trans k0
          have q1 : ∀ n' : Over wq.heap.size wq, n'.at.cell? ⟨h, 1, none⟩ = some (.int .i64 (i : Nat)) := fun n' => (n'.cell HHL.out).trans k1
          have HRG : Hid (∀ W : World, (∃ n' : Over wq.heap.size wq, W = n'.at) → W.rangeAt bk (off + i * 4) [.int .u8 (x.kind : Nat), .string x.text, .int .i64 x.int, .int .i64 (x.at_ : Nat)]) := Lib.hid (by
            rintro W ⟨n', rfl⟩ j v hj
            exact (n'.cell HBK.out).trans (HQC.out j v hj))
          have HSG := Lib.hid (fun W => sign_any x.kind x.text x.int x.at_ W)
          obtain ⟨op, hop⟩ : ∃ z, z = (sgn x.kind x.text.toList).1 := ⟨_, rfl⟩
          obtain ⟨lv, hlv⟩ : ∃ z, z = (sgn x.kind x.text.toList).2 := ⟨_, rfl⟩
          have HPR : Hid (sgn x.kind x.text.toList = (op, lv)) := Lib.hid (by rw [hop, hlv])
          rw [← hop, ← hlv] at HSG
          rw [HPR.out] at HFI
          clear hop hlv k0 k1
          refine wp_region_over (B := wq.heap.size) (by kernel_rfl) (by kernel_rfl) ?_
          repeat (first
            | (go_big_quiet_step (exact Calls.over (Over.size _) ((HSG.out _).mono fun e w' hh => hh)))
            | (refine wpQuiet_load_mid rfl 56 (.tmp 56) rfl bk (off + i * 4) rfl [.int .u8 (x.kind : Nat), .string x.text, .int .i64 x.int, .int .i64 (x.at_ : Nat)] (.struct _) HRG.out Tryz.underlying56 rfl (by kernel_rfl) ?_
               try simp only [Act.put, List.setIfInBounds_toArray, List.set_cons_succ, List.set_cons_zero]))
          refine wpQuiet_nil ?_
          rintro _ ⟨nw, rfl⟩
          have HSN := Lib.hid (And.intro (HS.out.below nw.bel) (HO.out.chg (Chg.of_below nw.bel) HS.out.lt))
          clear HS HO HQC HRG q0 q1 HSG HHL HBK
          generalize nw.at = w2 at *
          have HS2 : Hid (Sd w h L lg w2 (x :: r) false M) := Lib.hid HSN.out.1
          have HO : Hid (Od w w2 A nn c t) := Lib.hid HSN.out.2
          clear HSN
          rcases HFI.out with ⟨hf, hne⟩ | ⟨p, hf, hpr, hT⟩
          · have d5 : ((lv : Int) != 6) = true := by rw [bne_iff_ne]; intro hh; exact hne (by dsimp only; omega)
            have HR : Hid (R = (onB false (x :: r) (.ok t (x :: r) false)).add M) := Lib.hid (by rw [HE.out, leftP, hf])
            have HP : Hid (DPost w h L lg R _ _) := Lib.hid (HS2.out.same HO.out HT.out HR.out)
            clear hf hne
            go_wp2_with fail
            go_ret
            exact HP.out
          · injection hpr with e1 e2
            subst e2
            have d5 : (((6 : Nat) : Int) != 6) = false := by decide
            have he : R = (onB false r ((P n .pre r).bind fun u l1 => (ofP (tw op) [t, u] l1).bind fun t2 l2 => if (false : Bool) then .ok t2 l2 false else leftP (P n .pre) sTerm false j t2 l2)).add M := by
              rw [HE.out, leftP, hf, e1]
              rfl
            have HE := Lib.hid he
            clear hf hT he e1 HPR HFI
            obtain ⟨i', k1, hi', f1, hp⟩ := HS2.out.rd.pass
            have HPS := Lib.hid (And.intro (HS2.out.step (chg_self w2 h 1 (.int .i64 ((i' : Int) + 1))) hp) (HO.out.chg (chg_self w2 h 1 (.int .i64 ((i' : Int) + 1))) HS2.out.lt))
            clear hp HS2 HO
            go_upto_region 14 with fail
            generalize w2.setCell ⟨h, 1, none⟩ (.int .i64 ((i' : Int) + 1)) = w3 at *
            have HS3 : Hid (Sd w h L lg w3 r false M) := Lib.hid HPS.out.1
            have HO3 : Hid (Od w w3 A nn c t) := Lib.hid HPS.out.2
            have HT3 : Hid (t.length ≤ 2048) := HT
            clear HPS k1 f1
            have HNP : Hid (R ≠ .out) := HNE
            have HC := Lib.hid (HS3.out.tree (dlev7_any ih h r _ false w3 HS3.out.rd (fun hb => bind_ne1 (onB_ne HE.out HNE.out hb))))
            go_wp2_with fail
            refine HC.out.mono ?_
            rintro e w4 ⟨t4, l4, b4, m4, A4, n4, c4, rfl, htl, ho, hs, hc, hsy⟩
            clear HC
            have HL4 : Hid (b4 = false → l4.length < r.length) := Lib.hid fun hb => by
              rcases hsy with ⟨e1, e2⟩ | ⟨e1, e2⟩
              · rw [hb] at e1; cases e1
              · exact (P_len n .pre _ _ _ _ e2).2
            have he := onB_bind HE.out hsy
            try dsimp only at he
            obtain ⟨M4, hM⟩ : ∃ z, z = (M || m4) := ⟨_, rfl⟩
            rw [← hM] at he hs
            have HE := Lib.hid he
            have HT4 := Lib.hid htl
            have HO4 := Lib.hid ho
            clear he hsy hM htl ho
            have HS4 : Hid (Sd w h L lg w4 l4 b4 M4) := Lib.hid hs
            have HO3 : Hid (Od w w4 A nn c t) := Lib.hid (HO3.out.chg hc HS3.out.lt)
            clear hs hc HS3
            have HSZ : Hid (w.heap.size ≤ w4.heap.size ∧ nn + n4 ≤ 1000000) := Lib.hid ⟨HS4.out.chg.size, by have := HT3.out; have := HT4.out; have := HO3.out.len; have := HO4.out.len; omega⟩
            go_wp2_with (at_builtin; refine wpList_app_tw rfl (.tmp 80) (.tmp 81) rfl w.heap.size nn c n4 c4 A A4 t t4 rfl HO3.out.own rfl HO4.out.len HO4.out.rd HSZ.out.2 HSZ.out.1 ?_; intro A5 c5 w5 ho9 hg9; have HOZ := Lib.hid (And.intro ho9 hg9); clear ho9 hg9)
            have HO5 : Hid (Od w w5 A5 (nn + n4) c5 (t ++ t4)) := Lib.hid ⟨by rw [List.length_append, HO3.out.len, HO4.out.len], HOZ.out.1⟩
            have HS5 : Hid (Sd w h L lg w5 l4 b4 M4) := Lib.hid (HS4.out.grown HO3.out HOZ.out.2)
            have HT5 : Hid ((t ++ t4).length ≤ 200000) := Lib.hid (by rw [List.length_append]; have := HT3.out; have := HT4.out; omega)
            clear HS4 HSZ HOZ
            obtain ⟨t9, m9, h9, h10⟩ := ofP_ok (tw op) [t, t4] l4
            have HF := Lib.hid (HS5.out.top (R := (onB b4 l4 (ofP (tw op) [t, t4] l4)).add M4) (tw op) [t, t4] 2 rfl HO5.out (by have := HT5.out; have := HO5.out.len; omega) (fun _ => ⟨rfl, .inl (by simp)⟩))
            refine HF.out.mono ?_
            rintro e w7 ⟨t7, l7, b7, m7, A7, n7, c7, rfl, htl, ho, hs, hsy⟩
            have HT7 := Lib.hid htl
            have HO7 := Lib.hid ho
            have HS7 := Lib.hid hs
            clear ho hs HF
            have he : R = (onB b7 l7 (leftP (P n .pre) sTerm false j t7 l7)).add m7 := by
              have hE := HE.out
              rw [h9] at hE hsy
              unfold onB at hE hsy ⊢
              rcases hsy with ⟨e1, e2⟩ | ⟨e1, e2⟩
              · rw [e1, if_pos rfl]
                cases b4 with
                | true => rw [if_pos rfl] at hE e2; rw [hE, e2]; rfl
                | false => rw [if_neg (by simp)] at e2; cases e2
              · rw [e1, if_neg (by simp)]
                cases b4 with
                | true => rw [if_pos rfl] at e2; cases e2
                | false =>
                  rw [if_neg (by simp)] at hE e2
                  injection e2 with e3 e4 e5
                  rw [hE, Pr.bind_ok, Pr.add_add, e3, e4, e5]
                  rfl
            have hlen : dbud w7 h < dbud wr h := by
              rw [HWR.out.1, HS7.out.bud]
              have hl7 : b7 = false → l7.length < r.length := by
                intro hb7
                rcases hsy with ⟨e1, e2⟩ | ⟨e1, e2⟩
                · rw [hb7] at e1; cases e1
                · have := HL4.out
                  cases b4 with
                  | true => cases e2
                  | false =>
                    rw [h9] at e2
                    unfold onB at e2
                    rw [if_neg (by simp)] at e2
                    injection e2 with e3 e4 e5
                    rw [← e4]
                    exact this rfl
              cases b7 with
              | true => simp
              | false => have := hl7 rfl; simp; omega
            have HE := Lib.hid he
            have HLEN := Lib.hid hlen
            clear he hlen hsy h9 h10 htl
            go_wp2_with fail
            go_roundw
            case rel => exact ⟨A7, n7, c7, t7, l7, b7, m7, j, rfl, HT7.out, HO7.out, HS7.out, HE.out⟩
            case measure => exact HLEN.out
set_option maxRecDepth 100000 in
set_option maxHeartbeats 16000000 in
theorem dnot_step {n : Nat} {L : List Tz} (ih : NtD L n) (h : Nat) (l : List Tz) (lg b : Bool) (w : World) (hr : StD w h L l b lg) (hne : b = false → P (n + 1) .not_ l ≠ .out) :
    Calls Tryz.prog 47 #[gp h, .int .i64 3] w (DPost w h L lg (onB b l (P (n + 1) .not_ l))) := by
  rw [P] at hne ⊢
  have HS0 : Hid (Sd w h L lg w l b false) := Lib.hid (Sd.start hr)
  obtain ⟨R, hR⟩ : ∃ R, R = onB b l (if isT [110, 111, 116] l then (P n .not_ l.tail).bind fun t l1 => ofP (tw 43) [t] l1 else (P n .sum l).bind (leftP (P n .sum) sCmp true n)) := ⟨_, rfl⟩
  have HNE : Hid (R ≠ .out) := Lib.hid (by rw [hR]; exact onB_out hne)
  rw [← hR]
  have he : R = (onB b l (if isT [110, 111, 116] l then (P n .not_ l.tail).bind fun t l1 => ofP (tw 43) [t] l1 else (P n .sum l).bind (leftP (P n .sum) sCmp true n))).add false := by rw [hR, Pr.add_false]
  clear hR hr hne
  have HE := Lib.hid he
  clear he
  go_enter Tryz.func47, Tryz.ntmps47
  have HC := Lib.hid (HS0.out.has [110, 111, 116])
  obtain ⟨v, hv⟩ : ∃ v, v = (!b && isT [110, 111, 116] l) := ⟨_, rfl⟩
  have HV0 := Lib.hid hv
  rw [← hv] at HC
  clear hv
  go_wp2_with fail
  refine HC.out.mono ?_
  rintro e w1 ⟨rfl, hs, hc⟩
  clear HC
  cases v
  rotate_left
  · have he := HE.out
    rw [onB_yes (l' := l.tail) HV0.out] at he
    have HE := Lib.hid he
    clear he
    have HS1 : Hid (Sd w h L lg w1 l.tail b false) := Lib.hid hs
    clear hs hc HS0
    have HC := Lib.hid (HS1.out.tree (ih .not_ h l.tail _ b w1 HS1.out.rd (fun hb => bind_ne1 (onB_ne HE.out HNE.out hb))))
    go_wp2_with fail
    refine HC.out.mono ?_
    rintro e w2 ⟨t2, l2, b2, m2, A2, n2, c2, rfl, htl, ho, hs, hc, hsy⟩
    clear HC
    have he := onB_bind HE.out hsy
    try dsimp only at he
    obtain ⟨M2, hM⟩ : ∃ z, z = (false || m2) := ⟨_, rfl⟩
    rw [← hM] at he hs
    have HE := Lib.hid he
    have HT2 := Lib.hid htl
    have HO2 := Lib.hid ho
    clear he hsy hM htl ho
    have HS2 : Hid (Sd w h L lg w2 l2 b2 M2) := Lib.hid hs
    clear hs hc HS1
    have HF := Lib.hid (HS2.out.top (tw 43) [t2] 1 HE.out HO2.out (by have := HT2.out; have := HO2.out.len; omega) (fun _ => ⟨rfl, .inl (by simp)⟩))
    go_wp2_with fail
    refine HF.out.mono ?_
    intro e w99 hp
    obtain ⟨A99, n99, c99, rfl⟩ := hp.ret
    have HP := Lib.hid hp
    clear hp HF
    go_wp2_with fail
    go_ret
    exact HP.out
  have he := HE.out
  rw [onB_no HV0.out] at he
  have HE := Lib.hid he
  clear he
  have HS1 : Hid (Sd w h L lg w1 l b false) := Lib.hid hs
  clear hs hc HS0
  have HF := Lib.hid (HS1.out.hand HE.out (dlev4_any ih h l _ b w1 HS1.out.rd (fun hb => onB_ne HE.out HNE.out hb)))
  go_wp2_with fail
  refine HF.out.mono ?_
  intro e w99 hp
  obtain ⟨A99, n99, c99, rfl⟩ := hp.ret
  have HP := Lib.hid hp
  clear hp HF
  go_wp2_with fail
  go_ret
  exact HP.out
set_option maxRecDepth 100000 in
set_option maxHeartbeats 16000000 in
theorem dpre_step {n : Nat} {L : List Tz} (ih : NtD L n) (h : Nat) (l : List Tz) (lg b : Bool) (w : World) (hr : StD w h L l b lg) (hne : b = false → P (n + 1) .pre l ≠ .out) :
    Calls Tryz.prog 73 #[gp h] w (DPost w h L lg (onB b l (P (n + 1) .pre l))) := by
  rw [P] at hne ⊢
  have HS0 : Hid (Sd w h L lg w l b false) := Lib.hid (Sd.start hr)
  obtain ⟨R, hR⟩ : ∃ R, R = onB b l (preP (P n .pre) (P n .prim) (P n .expr) n l) := ⟨_, rfl⟩
  have HNE : Hid (R ≠ .out) := Lib.hid (by rw [hR]; exact onB_out hne)
  rw [← hR]
  have he : R = (onB b l (preP (P n .pre) (P n .prim) (P n .expr) n l)).add false := by rw [hR, Pr.add_false]
  clear hR hr hne
  unfold preP at he
  have HE := Lib.hid he
  clear he
  go_enter Tryz.func73, Tryz.ntmps73
  have HC := Lib.hid (HS0.out.has [45])
  obtain ⟨v, hv⟩ : ∃ v, v = (!b && isT [45] l) := ⟨_, rfl⟩
  have HV0 := Lib.hid hv
  rw [← hv] at HC
  clear hv
  go_wp2_with fail
  refine HC.out.mono ?_
  rintro e w1 ⟨rfl, hs, hc⟩
  clear HC
  cases v
  rotate_left
  · have he := HE.out
    rw [onB_yes (l' := l.tail) HV0.out] at he
    have HE := Lib.hid he
    clear he
    have HS1 : Hid (Sd w h L lg w1 l.tail b false) := Lib.hid hs
    clear hs hc HS0
    have HC := Lib.hid (HS1.out.tree (ih .pre h l.tail _ b w1 HS1.out.rd (fun hb => bind_ne1 (onB_ne HE.out HNE.out hb))))
    go_wp2_with fail
    refine HC.out.mono ?_
    rintro e w2 ⟨t2, l2, b2, m2, A2, n2, c2, rfl, htl, ho, hs, hc, hsy⟩
    clear HC
    have he := onB_bind HE.out hsy
    try dsimp only at he
    obtain ⟨M2, hM⟩ : ∃ z, z = (false || m2) := ⟨_, rfl⟩
    rw [← hM] at he hs
    have HE := Lib.hid he
    have HT2 := Lib.hid htl
    have HO2 := Lib.hid ho
    clear he hsy hM htl ho
    have HS2 : Hid (Sd w h L lg w2 l2 b2 M2) := Lib.hid hs
    clear hs hc HS1
    have HF := Lib.hid (HS2.out.top (tw 44) [t2] 1 HE.out HO2.out (by have := HT2.out; have := HO2.out.len; omega) (fun _ => ⟨rfl, .inl (by simp)⟩))
    go_wp2_with fail
    refine HF.out.mono ?_
    intro e w99 hp
    obtain ⟨A99, n99, c99, rfl⟩ := hp.ret
    have HP := Lib.hid hp
    clear hp HF
    go_wp2_with fail
    go_ret
    exact HP.out
  have he := HE.out
  rw [onB_no HV0.out] at he
  have HE := Lib.hid he
  clear he
  have HS1 : Hid (Sd w h L lg w1 l b false) := Lib.hid hs
  clear hs hc HS0
  have HC := Lib.hid (HS1.out.has [97, 119, 97, 105, 116])
  obtain ⟨v, hv⟩ : ∃ v, v = (!b && isT [97, 119, 97, 105, 116] l) := ⟨_, rfl⟩
  have HV1 := Lib.hid hv
  rw [← hv] at HC
  clear hv
  go_wp2_with fail
  refine HC.out.mono ?_
  rintro e w2 ⟨rfl, hs, hc⟩
  clear HC
  cases v
  rotate_left
  · have he := HE.out
    rw [onB_yes (l' := l.tail) HV1.out] at he
    have HE := Lib.hid he
    clear he
    have HS2 : Hid (Sd w h L lg w2 l.tail b false) := Lib.hid hs
    clear hs hc HS1
    have HC := Lib.hid (HS2.out.tree (ih .pre h l.tail _ b w2 HS2.out.rd (fun hb => bind_ne1 (onB_ne HE.out HNE.out hb))))
    go_wp2_with fail
    refine HC.out.mono ?_
    rintro e w3 ⟨t3, l3, b3, m3, A3, n3, c3, rfl, htl, ho, hs, hc, hsy⟩
    clear HC
    have he := onB_bind HE.out hsy
    try dsimp only at he
    obtain ⟨M3, hM⟩ : ∃ z, z = (false || m3) := ⟨_, rfl⟩
    rw [← hM] at he hs
    have HE := Lib.hid he
    have HT3 := Lib.hid htl
    have HO3 := Lib.hid ho
    clear he hsy hM htl ho
    have HS3 : Hid (Sd w h L lg w3 l3 b3 M3) := Lib.hid hs
    clear hs hc HS2
    have HF := Lib.hid (HS3.out.top (tw 54) [t3] 1 HE.out HO3.out (by have := HT3.out; have := HO3.out.len; omega) (fun _ => ⟨rfl, .inl (by simp)⟩))
    go_wp2_with fail
    refine HF.out.mono ?_
    intro e w99 hp
    obtain ⟨A99, n99, c99, rfl⟩ := hp.ret
    have HP := Lib.hid hp
    clear hp HF
    go_wp2_with fail
    go_ret
    exact HP.out
  have he := HE.out
  rw [onB_no HV1.out] at he
  have HE := Lib.hid he
  clear he
  have HS2 : Hid (Sd w h L lg w2 l b false) := Lib.hid hs
  clear hs hc HS1
  have HC := Lib.hid (HS2.out.has [115, 101, 116, 116, 108, 101])
  obtain ⟨v, hv⟩ : ∃ v, v = (!b && isT [115, 101, 116, 116, 108, 101] l) := ⟨_, rfl⟩
  have HV2 := Lib.hid hv
  rw [← hv] at HC
  clear hv
  go_wp2_with fail
  refine HC.out.mono ?_
  rintro e w3 ⟨rfl, hs, hc⟩
  clear HC
  cases v
  rotate_left
  · have he := HE.out
    rw [onB_yes (l' := l.tail) HV2.out] at he
    have HE := Lib.hid he
    clear he
    have HS3 : Hid (Sd w h L lg w3 l.tail b false) := Lib.hid hs
    clear hs hc HS2
    have HC := Lib.hid (HS3.out.tree (ih .pre h l.tail _ b w3 HS3.out.rd (fun hb => bind_ne1 (onB_ne HE.out HNE.out hb))))
    go_wp2_with fail
    refine HC.out.mono ?_
    rintro e w4 ⟨t4, l4, b4, m4, A4, n4, c4, rfl, htl, ho, hs, hc, hsy⟩
    clear HC
    have he := onB_bind HE.out hsy
    try dsimp only at he
    obtain ⟨M4, hM⟩ : ∃ z, z = (false || m4) := ⟨_, rfl⟩
    rw [← hM] at he hs
    have HE := Lib.hid he
    have HT4 := Lib.hid htl
    have HO4 := Lib.hid ho
    clear he hsy hM htl ho
    have HS4 : Hid (Sd w h L lg w4 l4 b4 M4) := Lib.hid hs
    clear hs hc HS3
    have HF := Lib.hid (HS4.out.top (tw 55) [t4] 1 HE.out HO4.out (by have := HT4.out; have := HO4.out.len; omega) (fun _ => ⟨rfl, .inl (by simp)⟩))
    go_wp2_with fail
    refine HF.out.mono ?_
    intro e w99 hp
    obtain ⟨A99, n99, c99, rfl⟩ := hp.ret
    have HP := Lib.hid hp
    clear hp HF
    go_wp2_with fail
    go_ret
    exact HP.out
  have he := HE.out
  rw [onB_no HV2.out] at he
  have HE := Lib.hid he
  clear he
  have HS3 : Hid (Sd w h L lg w3 l b false) := Lib.hid hs
  clear hs hc HS2
  have HC := Lib.hid (HS3.out.tree (ih .prim h l _ b w3 HS3.out.rd (fun hb => bind_ne1 (onB_ne HE.out HNE.out hb))))
  go_wp2_with fail
  refine HC.out.mono ?_
  rintro e w4 ⟨t4, l4, b4, m4, A4, n4, c4, rfl, htl, ho, hs, hc, hsy⟩
  clear HC
  have he := onB_bind HE.out hsy
  try dsimp only at he
  obtain ⟨M4, hM⟩ : ∃ z, z = (false || m4) := ⟨_, rfl⟩
  rw [← hM] at he hs
  have HE := Lib.hid he
  have HT4 := Lib.hid htl
  have HO4 := Lib.hid ho
  clear he hsy hM htl ho
  have HS4 : Hid (Sd w h L lg w4 l4 b4 M4) := Lib.hid hs
  clear hs hc HS3
  go_wp2_with fail
  go_loopw [5] (fun s5 wr => ∃ (A : Option Addr) (nn c : Nat) (t : List Tw) (l : List Tz) (b M : Bool) (j : Nat), s5 = .slice A nn c ∧ t.length ≤ 2048 ∧ Od w wr A nn c t ∧ Sd w h L lg wr l b M ∧ R = (onB b l (postP (P n .expr) j t l)).add M) (fun _ wr => dbud wr h)
  case atStart => exact ⟨A4, n4, c4, t4, l4, b4, M4, n, rfl, HT4.out, HO4.out, HS4.out, HE.out⟩
  case round =>
    clear HE HS4 HO4 HT4
    obtain ⟨A, nn, c, t, l, b, M, j, rfl, htl, ho, hs, he⟩ := hrel
    have HT0 := Lib.hid htl
    have HO0 := Lib.hid ho
    have HS0 := Lib.hid hs
    have HE := Lib.hid he
    clear htl ho hs he
    cases b with
    | true =>
      have HC := Lib.hid (HS0.out.has [91])
      go_wp2_with fail
      refine HC.out.mono ?_
      rintro e w1 ⟨rfl, hs, hc⟩
      have HD : Hid (DPost w h L lg R (.returned (.slice A nn c)) w1) := Lib.hid ⟨t, l, true, M, A, nn, c, rfl, HT0.out, HO0.out.chg hc HS0.out.lt, hs, .inl ⟨rfl, HE.out⟩⟩
      clear hs hc HC
      go_wp2_with fail
      go_ret
      exact HD.out
    | false =>
      cases j with
      | zero => exact absurd HE.out HNE.out
      | succ j =>
        have he := HE.out
        rw [postP] at he
        have HE := Lib.hid he
        have HBU := Lib.hid HS0.out.bud
        clear he
        have HC := Lib.hid (HS0.out.has [91])
        obtain ⟨v, hv⟩ : ∃ v, v = (!false && isT [91] l) := ⟨_, rfl⟩
        have HV0 := Lib.hid hv
        rw [← hv] at HC
        clear hv
        go_wp2_with fail
        refine HC.out.mono ?_
        rintro e w1 ⟨rfl, hs, hc⟩
        clear HC
        cases v
        rotate_left
        · have he := HE.out
          rw [onB_yes (l' := l.tail) HV0.out] at he
          have HE := Lib.hid he
          clear he
          have HS1 : Hid (Sd w h L lg w1 l.tail false M) := Lib.hid hs
          have HO0 : Hid (Od w w1 A nn c t) := Lib.hid (HO0.out.chg hc HS0.out.lt)
          clear hs hc HS0
          have he := HE.out
          simp only [of_must] at he
          have HE := Lib.hid he
          have HTL : Hid (l.tail.length < l.length) := Lib.hid (by
            have := HV0.out
            rw [Bool.not_false, Bool.true_and] at this
            have := isT_len this.symm
            omega)
          clear he
          have HC := Lib.hid (HS1.out.tree (dexpr_any ih h l.tail _ false w1 HS1.out.rd (fun hb => bind_ne1 (onB_ne HE.out HNE.out hb))))
          go_wp2_with fail
          refine HC.out.mono ?_
          rintro e w2 ⟨t2, l2, b2, m2, A2, n2, c2, rfl, htl, ho, hs, hc, hsy⟩
          clear HC
          have HL2 : Hid (b2 = false → l2.length < l.length) := Lib.hid fun hb => by
            rcases hsy with ⟨e1, e2⟩ | ⟨e1, e2⟩
            · rw [hb] at e1; cases e1
            · have := (P_len n .expr _ _ _ _ e2).2
              have := HTL.out
              omega
          have he := onB_bind HE.out hsy
          try dsimp only at he
          obtain ⟨M2, hM⟩ : ∃ z, z = (M || m2) := ⟨_, rfl⟩
          rw [← hM] at he hs
          have HE := Lib.hid he
          have HT2 := Lib.hid htl
          have HO2 := Lib.hid ho
          clear he hsy hM htl ho
          have HS2 : Hid (Sd w h L lg w2 l2 b2 M2) := Lib.hid hs
          have HO0 : Hid (Od w w2 A nn c t) := Lib.hid (HO0.out.chg hc HS1.out.lt)
          clear hs hc HS1
          have HC := Lib.hid (HS2.out.must [93])
          go_wp2_with fail
          refine HC.out.mono ?_
          rintro e w3 ⟨rfl, l3, b3, hs, hc, hsy⟩
          clear HC
          have HL3 : Hid (b3 = false → l3.length < l.length) := Lib.hid fun hb => by
            rcases hsy with ⟨e1, e2⟩ | ⟨e1, e2⟩
            · rw [hb] at e1; cases e1
            · unfold onB at e2
              split at e2
              · cases e2
              · rename_i hbb
                have h1 := HL2.out (by simpa using hbb)
                obtain ⟨_, _, h2⟩ := must_inv e2
                omega
          have he := onB_bind HE.out hsy
          try dsimp only at he
          rw [Bool.or_false] at he
          have HE := Lib.hid he
          clear he hsy
          have HS3 : Hid (Sd w h L lg w3 l3 b3 M2) := Lib.hid hs
          have HO0 : Hid (Od w w3 A nn c t) := Lib.hid (HO0.out.chg hc HS2.out.lt)
          have HO2 : Hid (Od w w3 A2 n2 c2 t2) := Lib.hid (HO2.out.chg hc HS2.out.lt)
          clear hs hc HS2
          have HSZ : Hid (w.heap.size ≤ w3.heap.size ∧ nn + n2 ≤ 1000000) := Lib.hid ⟨HS3.out.chg.size, by have := HT0.out; have := HT2.out; have := HO0.out.len; have := HO2.out.len; omega⟩
          go_wp2_with (at_builtin; refine wpList_app_tw rfl (.tmp 35) (.tmp 36) rfl w.heap.size nn c n2 c2 A A2 t t2 rfl HO0.out.own rfl HO2.out.len HO2.out.rd HSZ.out.2 HSZ.out.1 ?_; intro A4 c4 w4 ho9 hg9; have HOZ := Lib.hid (And.intro ho9 hg9); clear ho9 hg9)
          have HO4 : Hid (Od w w4 A4 (nn + n2) c4 (t ++ t2)) := Lib.hid ⟨by rw [List.length_append, HO0.out.len, HO2.out.len], HOZ.out.1⟩
          have HS4 : Hid (Sd w h L lg w4 l3 b3 M2) := Lib.hid (HS3.out.grown HO0.out HOZ.out.2)
          have HT4 : Hid ((t ++ t2).length ≤ 200000) := Lib.hid (by rw [List.length_append]; have := HT0.out; have := HT2.out; omega)
          clear HS3 HSZ HOZ
          obtain ⟨t9, m9, h9, h10⟩ := ofP_ok (tw 42) [t, t2] l3
          have HF := Lib.hid (HS4.out.top (R := (onB b3 l3 (ofP (tw 42) [t, t2] l3)).add M2) (tw 42) [t, t2] 2 rfl HO4.out (by have := HT4.out; have := HO4.out.len; omega) (fun _ => ⟨rfl, .inl (by simp)⟩))
          refine HF.out.mono ?_
          rintro e w7 ⟨t7, l7, b7, m7, A7, n7, c7, rfl, htl, ho, hs, hsy⟩
          have HT7 := Lib.hid htl
          have HO7 := Lib.hid ho
          have HS7 := Lib.hid hs
          clear ho hs HF
          have he : R = (onB b7 l7 (postP (P n .expr) j t7 l7)).add m7 := by
            have hE := HE.out
            rw [h9] at hE hsy
            unfold onB at hE hsy ⊢
            rcases hsy with ⟨e1, e2⟩ | ⟨e1, e2⟩
            · rw [e1, if_pos rfl]
              cases b3 with
              | true => rw [if_pos rfl] at hE e2; rw [hE, e2]; rfl
              | false => rw [if_neg (by simp)] at e2; cases e2
            · rw [e1, if_neg (by simp)]
              cases b3 with
              | true => rw [if_pos rfl] at e2; cases e2
              | false =>
                rw [if_neg (by simp)] at hE e2
                injection e2 with e3 e4 e5
                rw [hE, Pr.bind_ok, Pr.add_add, e3, e4, e5]
          have hlen : dbud w7 h < dbud wr h := by
            rw [HBU.out, HS7.out.bud]
            cases b7 with
            | true => simp
            | false =>
              rcases hsy with ⟨e1, e2⟩ | ⟨e1, e2⟩
              · cases e1
              · have := HL3.out
                cases b3 with
                | true => cases e2
                | false =>
                  rw [h9] at e2
                  unfold onB at e2
                  rw [if_neg (by simp)] at e2
                  injection e2 with e3 e4 e5
                  have := this rfl
                  rw [e4] at this
                  simp
                  omega
          have HE := Lib.hid he
          have HLEN := Lib.hid hlen
          clear he hlen hsy h9 h10 htl
          go_wp2_with fail
          go_roundw
          case rel => exact ⟨A7, n7, c7, t7, l7, b7, m7, j, rfl, HT7.out, HO7.out, HS7.out, HE.out⟩
          case measure => exact HLEN.out
        have he := HE.out
        rw [onB_no HV0.out] at he
        have HE := Lib.hid he
        clear he
        have HS1 : Hid (Sd w h L lg w1 l false M) := Lib.hid hs
        have HO0 : Hid (Od w w1 A nn c t) := Lib.hid (HO0.out.chg hc HS0.out.lt)
        clear hs hc HS0
        have HP : Hid (DPost w h L lg R _ _) := Lib.hid (HS1.out.same HO0.out HT0.out HE.out)
        go_wp2_with fail
        go_ret
        exact HP.out
set_option maxRecDepth 100000 in
set_option maxHeartbeats 16000000 in
theorem dexprs_any {n : Nat} {L : List Tz} (ih : NtD L n) (s : List UInt8) (h : Nat) (l : List Tz) (lg b : Bool) (w : World) (hr : StD w h L l b lg) (hne : b = false → lisP (P n .expr) s n l ≠ .out) :
    Calls Tryz.prog 99 #[gp h, .string (bs s)] w (DLis w h L lg (onB b l (lisP (P n .expr) s n l))) := by
  have HS0 : Hid (Sd w h L lg w l b false) := Lib.hid (Sd.start hr)
  obtain ⟨R, hR⟩ : ∃ R, R = onB b l (lisP (P n .expr) s n l) := ⟨_, rfl⟩
  have HNE : Hid (R ≠ .out) := Lib.hid (by rw [hR]; exact onB_out hne)
  rw [← hR]
  have he : R = (onB b l (lisP (P n .expr) s n l)).add false := by rw [hR, Pr.add_false]
  clear hR hr hne
  unfold lisP at he
  have HE := Lib.hid he
  clear he
  go_enter Tryz.func99, Tryz.ntmps99
  have HC := Lib.hid (HS0.out.has s)
  obtain ⟨v, hv⟩ : ∃ v, v = (!b && isT s l) := ⟨_, rfl⟩
  have HV0 := Lib.hid hv
  rw [← hv] at HC
  clear hv
  go_wp2_with fail
  refine HC.out.mono ?_
  rintro e w1 ⟨rfl, hs, hc⟩
  clear HC
  cases v
  rotate_left
  · have he := HE.out
    rw [onB_yes (l' := l.tail) HV0.out] at he
    have HE := Lib.hid he
    clear he
    have HS1 : Hid (Sd w h L lg w1 l.tail b false) := Lib.hid hs
    clear hs hc HS0
    have HP : Hid (DLis w h L lg R (.returned (.tuple #[.slice none 0 0, .int .i64 (0 : Nat)])) w1) := Lib.hid ⟨[], [], l.tail, b, false, none, 0, 0, 0, rfl, by simp, Od.nil _ _, HS1.out, by
      have hE := HE.out
      rcases hbb : b with _ | _
      · exact .inr ⟨rfl, by rw [hE, hbb]; show Pr.ok [] _ (false || false) = _; rw [Bool.or_false]⟩
      · exact .inl ⟨rfl, by rw [hE, hbb]; rfl⟩, fun _ => ⟨rfl, .inl rfl⟩⟩
    go_wp2_with fail
    go_ret2
    exact HP.out
  have he := HE.out
  rw [onB_no HV0.out] at he
  have HE := Lib.hid he
  clear he
  have HS1 : Hid (Sd w h L lg w1 l b false) := Lib.hid hs
  clear hs hc HS0
  obtain ⟨j0, hj0⟩ : ∃ j, n = j + 1 ∨ (n = 0 ∧ j = 0) := by
    cases n with
    | zero => exact ⟨0, .inr ⟨rfl, rfl⟩⟩
    | succ j => exact ⟨j, .inl rfl⟩
  have he : R = (onB b l ((P n .expr l).bind fun t l1 => if isT s l1 then .ok ([] ++ [t]) l1.tail false else (mustP [44] l1).bind fun _ l2 => listP (P n .expr) s j0 ([] ++ [t]) l2)).add false := by
    have hE := HE.out
    rcases hj0 with h0 | ⟨h0, h1⟩
    · conv at hE => rhs; rw [show listP (P n .expr) s n [] l = listP (P n .expr) s (j0 + 1) [] l from by rw [← h0]]
      rw [listP] at hE
      exact hE
    · rcases hbb : b with _ | _
      · rw [h0, hbb] at hE
        exact absurd hE HNE.out
      · rw [hE, hbb]
        rfl
  have HE := Lib.hid he
  clear he hj0
  have HC := Lib.hid (HS1.out.tree (dexpr_any ih h l _ b w1 HS1.out.rd (fun hb => bind_ne1 (onB_ne HE.out HNE.out hb))))
  go_wp2_with fail
  refine HC.out.mono ?_
  rintro e w2 ⟨t2, l2, b2, m2, A2, n2, c2, rfl, htl, ho, hs, hc, hsy⟩
  clear HC
  have he := onB_bind HE.out hsy
  try dsimp only at he
  obtain ⟨M2, hM⟩ : ∃ z, z = (false || m2) := ⟨_, rfl⟩
  rw [← hM] at he hs
  have HE := Lib.hid he
  have HT2 := Lib.hid htl
  have HO2 := Lib.hid ho
  clear he hsy hM htl ho
  have HS2 : Hid (Sd w h L lg w2 l2 b2 M2) := Lib.hid hs
  clear hs hc HS1
  go_wp2_with fail
  go_loopw [6, 7] (fun s6 s7 wr => ∃ (ts : List (List Tw)) (A : Option Addr) (nn c : Nat) (t : List Tw) (l : List Tz) (b M : Bool) (j k : Nat), s6 = .slice A nn c ∧ s7 = .int .i64 (k : Nat) ∧ t.length ≤ 5000 ∧ Od w wr A nn c t ∧ Sd w h L lg wr l b M ∧ (b = false → k = ts.length ∧ (t = ts.flatten ∨ (2048 ≤ t.length ∧ 2048 ≤ ts.flatten.length)) ∧ k + l.length ≤ 100000) ∧ k ≤ 100001 ∧ R = (onB b l (if isT s l then .ok ts l.tail false else (mustP [44] l).bind fun _ l2 => listP (P n .expr) s j ts l2)).add M) (fun _ _ wr => dbud wr h)
  case atStart => exact ⟨[] ++ [t2], A2, n2, c2, t2, l2, b2, M2, j0, 1, rfl, rfl, by have := HT2.out; omega, HO2.out, HS2.out, fun _ => ⟨rfl, .inl (by simp), by have := HS2.out.rd.len; omega⟩, by omega, HE.out⟩
  case round =>
    clear HE HS2 HO2 HT2
    obtain ⟨ts, A, nn, c, t, l, b, M, j, k, rfl, rfl, htl, ho, hs, hp, hk, he⟩ := hrel
    have HT0 := Lib.hid htl
    have HO0 := Lib.hid ho
    have HS0 := Lib.hid hs
    have HE := Lib.hid he
    have HPA := Lib.hid hp
    have k2 := HS0.out.rd.bad_cell
    clear htl ho hs he hp
    cases b with
    | true =>
      have HD : Hid (DLis w h L lg R (.returned (.tuple #[.slice A nn c, .int .i64 (k : Nat)])) wr) := Lib.hid ⟨ts, t, l, true, M, A, nn, c, k, rfl, HT0.out, HO0.out, HS0.out, .inl ⟨rfl, HE.out⟩, fun hh => by cases hh⟩
      go_wp2_with fail
      go_ret2
      exact HD.out
    | false =>
      have HBU := Lib.hid HS0.out.bud
      have HC := Lib.hid (HS0.out.has s)
      obtain ⟨v, hv⟩ : ∃ v, v = (!false && isT s l) := ⟨_, rfl⟩
      have HV0 := Lib.hid hv
      rw [← hv] at HC
      clear hv
      go_wp2_with fail
      refine HC.out.mono ?_
      rintro e w1 ⟨rfl, hs, hc⟩
      clear HC
      cases v
      rotate_left
      · have he := HE.out
        rw [onB_yes (l' := l.tail) HV0.out] at he
        have HE := Lib.hid he
        clear he
        have HS1 : Hid (Sd w h L lg w1 l.tail false M) := Lib.hid hs
        have HO0 : Hid (Od w w1 A nn c t) := Lib.hid (HO0.out.chg hc HS0.out.lt)
        clear hs hc HS0
        have HP : Hid (DLis w h L lg R (.returned (.tuple #[.slice A nn c, .int .i64 (k : Nat)])) w1) := Lib.hid ⟨ts, t, l.tail, false, M, A, nn, c, k, rfl, HT0.out, HO0.out, HS1.out, .inr ⟨rfl, by rw [HE.out]; show Pr.ok ts _ (M || false) = _; rw [Bool.or_false]⟩, fun _ => ⟨(HPA.out (by trivial)).1, (HPA.out (by trivial)).2.1⟩⟩
        go_wp2_with fail
        go_ret2
        exact HP.out
      have he := HE.out
      rw [onB_no HV0.out] at he
      have HE := Lib.hid he
      clear he
      have HS1 : Hid (Sd w h L lg w1 l false M) := Lib.hid hs
      have HO0 : Hid (Od w w1 A nn c t) := Lib.hid (HO0.out.chg hc HS0.out.lt)
      clear hs hc HS0
      have HC := Lib.hid (HS1.out.must [44])
      go_wp2_with fail
      refine HC.out.mono ?_
      rintro e w2 ⟨rfl, l2, b2, hs, hc, hsy⟩
      clear HC
      have HL2 : Hid (b2 = false → l2.length < l.length) := Lib.hid fun hb => by
        rcases hsy with ⟨e1, e2⟩ | ⟨e1, e2⟩
        · rw [hb] at e1; cases e1
        · unfold onB at e2
          first
            | (obtain ⟨_, _, h2⟩ := must_inv e2; omega)
            | (split at e2
               · cases e2
               · obtain ⟨_, _, h2⟩ := must_inv e2; omega)
      have he := onB_bind HE.out hsy
      try dsimp only at he
      rw [Bool.or_false] at he
      have HE := Lib.hid he
      clear he hsy
      have HS2 : Hid (Sd w h L lg w2 l2 b2 M) := Lib.hid hs
      have HO0 : Hid (Od w w2 A nn c t) := Lib.hid (HO0.out.chg hc HS1.out.lt)
      clear hs hc HS1
      obtain ⟨j1, hj1⟩ : ∃ i, j = i + 1 ∨ (j = 0 ∧ i = 0) := by
        cases j with
        | zero => exact ⟨0, .inr ⟨rfl, rfl⟩⟩
        | succ i => exact ⟨i, .inl rfl⟩
      have he : R = (onB b2 l2 ((P n .expr l2).bind fun t l1 => if isT s l1 then .ok (ts ++ [t]) l1.tail false else (mustP [44] l1).bind fun _ l2 => listP (P n .expr) s j1 (ts ++ [t]) l2)).add M := by
        have hE := HE.out
        rcases hj1 with h0 | ⟨h0, h1⟩
        · rw [h0, listP] at hE
          exact hE
        · rcases hbb : b2 with _ | _
          · rw [h0, hbb] at hE
            exact absurd hE HNE.out
          · rw [hE, hbb]
            rfl
      have HE := Lib.hid he
      clear he hj1
      have HC := Lib.hid (HS2.out.tree (dexpr_any ih h l2 _ b2 w2 HS2.out.rd (fun hb => bind_ne1 (onB_ne HE.out HNE.out hb))))
      go_wp2_with fail
      refine HC.out.mono ?_
      rintro e w3 ⟨t3, l3, b3, m3, A3, n3, c3, rfl, htl, ho, hs, hc, hsy⟩
      clear HC
      have HL3 : Hid (b3 = false → l3.length < l.length) := Lib.hid fun hb => by
        rcases hsy with ⟨e1, e2⟩ | ⟨e1, e2⟩
        · rw [hb] at e1; cases e1
        · unfold onB at e2
          split at e2
          · cases e2
          · rename_i hbb
            have h1 := HL2.out (by simpa using hbb)
            have h2 := (P_len n .expr _ _ _ _ e2).2
            omega
      have he := onB_bind HE.out hsy
      try dsimp only at he
      obtain ⟨M3, hM⟩ : ∃ z, z = (M || m3) := ⟨_, rfl⟩
      rw [← hM] at he hs
      have HE := Lib.hid he
      have HT3 := Lib.hid htl
      have HO3 := Lib.hid ho
      clear he hsy hM htl ho
      have HS3 : Hid (Sd w h L lg w3 l3 b3 M3) := Lib.hid hs
      have HO0 : Hid (Od w w3 A nn c t) := Lib.hid (HO0.out.chg hc HS2.out.lt)
      clear hs hc HS2
      have HNL := Lib.hid HO0.out.len
      have hkk : k ≤ 100001 := hk
      have HKK : Hid (b3 = false → k + 1 + l3.length ≤ 100000) := Lib.hid fun hb => by
        have h1 := HL3.out hb
        have h2 := (HPA.out (by trivial)).2.2
        omega
      have HK0 : Hid (k ≤ 100000) := Lib.hid (by have h2 := (HPA.out (by trivial)).2.2; omega)
      have hk0 := HK0.out
      clear hk hkk
      by_cases hbig : nn ≤ 2048
      · have d2 : decide ((nn : Int) ≤ 2048) = true := decide_eq_true (by omega)
        have d2' : decide (nn ≤ 2048) = true := decide_eq_true hbig
        have HT0 : Hid (t.length ≤ 2048) := Lib.hid (by rw [← HNL.out]; exact hbig)
        have HSZ : Hid (w.heap.size ≤ w3.heap.size ∧ nn + n3 ≤ 1000000) := Lib.hid ⟨HS3.out.chg.size, by have := HT0.out; have := HT3.out; have := HO0.out.len; have := HO3.out.len; omega⟩
        go_wp2_with (at_builtin; refine wpList_app_tw rfl (.tmp 32) (.tmp 33) rfl w.heap.size nn c n3 c3 A A3 t t3 rfl HO0.out.own rfl HO3.out.len HO3.out.rd HSZ.out.2 HSZ.out.1 ?_; intro A4 c4 w4 ho9 hg9; have HOZ := Lib.hid (And.intro ho9 hg9); clear ho9 hg9)
        have HO4 : Hid (Od w w4 A4 (nn + n3) c4 (t ++ t3)) := Lib.hid ⟨by rw [List.length_append, HO0.out.len, HO3.out.len], HOZ.out.1⟩
        have HS4 : Hid (Sd w h L lg w4 l3 b3 M3) := Lib.hid (HS3.out.grown HO0.out HOZ.out.2)
        have HT4 : Hid ((t ++ t3).length ≤ 200000) := Lib.hid (by rw [List.length_append]; have := HT0.out; have := HT3.out; omega)
        clear HS3 HSZ HOZ
        have hlen : dbud w4 h < dbud wr h := by
          rw [HBU.out, HS4.out.bud]
          rcases hbb : b3 with _ | _
          · have := HL3.out hbb
            simp
            omega
          · simp
        have HLEN := Lib.hid hlen
        clear hlen
        go_wp2_with fail
        go_roundw
        case rel => exact ⟨ts ++ [t3], A4, (nn + n3), c4, (t ++ t3), l3, b3, M3, j1, k + 1, rfl, by go_num, by rw [List.length_append]; have := HT0.out; have := HT3.out; omega, HO4.out, HS4.out, fun hb => ⟨by rw [List.length_append, (HPA.out (by trivial)).1]; rfl, parts_more (HPA.out (by trivial)).2.1, HKK.out hb⟩, by omega, HE.out⟩
        case measure => exact HLEN.out
      · have d2 : decide ((nn : Int) ≤ 2048) = false := decide_eq_false (by omega)
        have d2' : decide (nn ≤ 2048) = false := decide_eq_false hbig
        have hlen : dbud w3 h < dbud wr h := by
          rw [HBU.out, HS3.out.bud]
          rcases hbb : b3 with _ | _
          · have := HL3.out hbb
            simp
            omega
          · simp
        have HLEN := Lib.hid hlen
        clear hlen
        go_wp2_with fail
        go_roundw
        case rel => exact ⟨ts ++ [t3], A, nn, c, t, l3, b3, M3, j1, k + 1, rfl, by go_num, HT0.out, HO0.out, HS3.out, fun hb => ⟨by rw [List.length_append, (HPA.out (by trivial)).1]; rfl, parts_skip (by rw [← HNL.out]; omega) (HPA.out (by trivial)).2.1, HKK.out hb⟩, by omega, HE.out⟩
        case measure => exact HLEN.out
set_option maxRecDepth 100000 in
set_option maxHeartbeats 16000000 in
theorem dasked_any {n : Nat} {L : List Tz} (ih : NtD L n) (op : Nat) (h : Nat) (l : List Tz) (lg b : Bool) (w : World) (hr : StD w h L l b lg) (hne : b = false → askP (P n .expr) n op l ≠ .out) :
    Calls Tryz.prog 100 #[gp h, .int .u8 (op : Nat)] w (DPost w h L lg (onB b l (askP (P n .expr) n op l))) := by
  have HS0 : Hid (Sd w h L lg w l b false) := Lib.hid (Sd.start hr)
  obtain ⟨R, hR⟩ : ∃ R, R = onB b l (askP (P n .expr) n op l) := ⟨_, rfl⟩
  have HNE : Hid (R ≠ .out) := Lib.hid (by rw [hR]; exact onB_out hne)
  rw [← hR]
  have he : R = (onB b l (askP (P n .expr) n op l)).add false := by rw [hR, Pr.add_false]
  clear hR hr hne
  unfold askP at he
  have HE := Lib.hid he
  clear he
  go_enter Tryz.func100, Tryz.ntmps100
  have HC := Lib.hid HS0.out.own
  go_wp2_with fail
  refine HC.out.mono ?_
  rintro e w1 ⟨s1, l1, b1, rfl, hs, hc, hsy⟩
  clear HC
  have he := onB_bind HE.out hsy
  try dsimp only at he
  rw [Bool.or_false] at he
  have HE := Lib.hid he
  clear he hsy
  have HS1 : Hid (Sd w h L lg w1 l1 b1 false) := Lib.hid hs
  clear hs hc HS0
  have HC := Lib.hid (HS1.out.must [40])
  go_wp2_with fail
  refine HC.out.mono ?_
  rintro e w2 ⟨rfl, l2, b2, hs, hc, hsy⟩
  clear HC
  have he := onB_bind HE.out hsy
  try dsimp only at he
  rw [Bool.or_false] at he
  have HE := Lib.hid he
  clear he hsy
  have HS2 : Hid (Sd w h L lg w2 l2 b2 false) := Lib.hid hs
  clear hs hc HS1
  have HC := Lib.hid (HS2.out.lis (dexprs_any ih [41] h l2 _ b2 w2 HS2.out.rd (fun hb => bind_ne1 (onB_ne HE.out HNE.out hb))))
  go_wp2_with fail
  refine HC.out.mono ?_
  rintro e w3 ⟨ts3, t3, l3, b3, m3, A3, n3, c3, k3, rfl, htl, ho, hs, hc, hsy, hpp⟩
  clear HC
  have he := onB_bind HE.out hsy
  try dsimp only at he
  obtain ⟨M3, hM⟩ : ∃ z, z = (false || m3) := ⟨_, rfl⟩
  rw [← hM] at he hs
  have HE := Lib.hid he
  have HT3 := Lib.hid htl
  have HO3 := Lib.hid ho
  have HPP := Lib.hid hpp
  clear he hsy hM htl ho hpp
  have HS3 : Hid (Sd w h L lg w3 l3 b3 M3) := Lib.hid hs
  clear hs hc HS2
  have HF := Lib.hid (HS3.out.top ⟨op, 0, 0, s1⟩ ts3 (k3 : Nat) HE.out HO3.out (by have := HT3.out; have := HO3.out.len; omega) (fun hb => ⟨by rw [(HPP.out hb).1], (HPP.out hb).2⟩))
  go_wp2_with fail
  refine HF.out.mono ?_
  intro e w99 hp
  obtain ⟨A99, n99, c99, rfl⟩ := hp.ret
  have HP := Lib.hid hp
  clear hp HF
  go_wp2_with fail
  go_ret
  exact HP.out
theorem bind_assoc {α β γ : Type} (r : Pr α) (f : α → List Tz → Pr β) (g : β → List Tz → Pr γ) : (r.bind f).bind g = r.bind fun a l => (f a l).bind g := by
  cases r with
  | out => rfl
  | bad l => rfl
  | ok a l m =>
    rw [Pr.bind_ok, Pr.bind_ok]
    cases f a l with
    | out => rfl
    | bad l => rfl
    | ok b l2 m2 =>
      show ((Pr.ok b l2 (m || m2)).bind g) = ((g b l2).add m2).add m
      rw [Pr.bind_ok, Pr.add_add]
set_option maxRecDepth 100000 in
set_option maxHeartbeats 16000000 in
theorem dblock_step {n : Nat} {L : List Tz} (ih : NtD L n) (h : Nat) (l : List Tz) (lg b : Bool) (w : World) (hr : StD w h L l b lg) (hne : b = false → P (n + 1) .block l ≠ .out) :
    Calls Tryz.prog 45 #[gp h] w (DPost w h L lg (onB b l (P (n + 1) .block l))) := by
  rw [P] at hne ⊢
  have HS0 : Hid (Sd w h L lg w l b false) := Lib.hid (Sd.start hr)
  obtain ⟨R, hR⟩ : ∃ R, R = onB b l ((mustP [123] l).bind fun _ l1 => (stmtsP (P n .stmt) n [] l1).bind fun ts l2 => ofP (tw 3) ts l2) := ⟨_, rfl⟩
  have HNE : Hid (R ≠ .out) := Lib.hid (by rw [hR]; exact onB_out hne)
  rw [← hR]
  have he : R = (onB b l ((mustP [123] l).bind fun _ l1 => (stmtsP (P n .stmt) n [] l1).bind fun ts l2 => ofP (tw 3) ts l2)).add false := by rw [hR, Pr.add_false]
  clear hR hr hne
  have HE := Lib.hid he
  clear he
  go_enter Tryz.func45, Tryz.ntmps45
  have HC := Lib.hid (HS0.out.must [123])
  go_wp2_with fail
  refine HC.out.mono ?_
  rintro e w1 ⟨rfl, l1, b1, hs, hc, hsy⟩
  clear HC
  have he := onB_bind HE.out hsy
  try dsimp only at he
  rw [Bool.or_false] at he
  have HE := Lib.hid he
  clear he hsy
  have HS1 : Hid (Sd w h L lg w1 l1 b1 false) := Lib.hid hs
  clear hs hc HS0
  go_wp2_with fail
  go_loopw [3, 4] (fun s3 s4 wr => ∃ (ts : List (List Tw)) (A : Option Addr) (nn c : Nat) (t : List Tw) (l : List Tz) (b M : Bool) (j k : Nat), s3 = .slice A nn c ∧ s4 = .int .i64 (k : Nat) ∧ t.length ≤ 5000 ∧ Od w wr A nn c t ∧ Sd w h L lg wr l b M ∧ (b = false → k = ts.length ∧ (t = ts.flatten ∨ (2048 ≤ t.length ∧ 2048 ≤ ts.flatten.length)) ∧ k + l.length ≤ 100000) ∧ k ≤ 100001 ∧ R = (onB b l ((stmtsP (P n .stmt) j ts l).bind fun ts l2 => ofP (tw 3) ts l2)).add M) (fun _ _ wr => dbud wr h)
  case atStart => exact ⟨[], none, 0, 0, [], l1, b1, false, n, 0, rfl, rfl, by simp, Od.nil _ _, HS1.out, fun _ => ⟨rfl, .inl rfl, by have := HS1.out.rd.len; omega⟩, by omega, HE.out⟩
  case round =>
    clear HE HS1
    obtain ⟨ts, A, nn, c, t, l, b, M, j, k, rfl, rfl, htl, ho, hs, hp, hk, he⟩ := hrel
    have HT0 := Lib.hid htl
    have HO0 := Lib.hid ho
    have HS0 := Lib.hid hs
    have HE := Lib.hid he
    have HPA := Lib.hid hp
    have k2 := HS0.out.rd.bad_cell
    clear htl ho hs he hp
    cases b with
    | true =>
      have HF := Lib.hid (HS0.out.top (tw 3) ts (k : Nat) (R := R) (by rw [HE.out]; rfl) HO0.out (by have := HT0.out; have := HO0.out.len; omega) (fun hh => by cases hh))
      go_wp2_with fail
      refine HF.out.mono ?_
      intro e w99 hp
      obtain ⟨A99, n99, c99, rfl⟩ := hp.ret
      have HP := Lib.hid hp
      clear hp HF
      go_wp2_with fail
      go_ret
      exact HP.out
    | false =>
      cases j with
      | zero => exact absurd HE.out HNE.out
      | succ j =>
        have he := HE.out
        rw [stmtsP] at he
        have HE := Lib.hid he
        have HBU := Lib.hid HS0.out.bud
        have HC := Lib.hid (HS0.out.has [125])
        obtain ⟨v, hv⟩ : ∃ v, v = (!false && isT [125] l) := ⟨_, rfl⟩
        have HV := Lib.hid hv
        rw [← hv] at HC
        clear hv he
        go_wp2_with fail
        refine HC.out.mono ?_
        rintro e w1 ⟨rfl, hs, hc⟩
        clear HC
        cases v with
        | true =>
          have HS1 : Hid (Sd w h L lg w1 l.tail false M) := Lib.hid hs
          have HO1 : Hid (Od w w1 A nn c t) := Lib.hid (HO0.out.chg hc HS0.out.lt)
          have hE : R = (onB false l.tail (ofP (tw 3) ts l.tail)).add M := by
            have hT : isT [125] l = true := by have := HV.out; rw [Bool.not_false, Bool.true_and] at this; exact this.symm
            have := HE.out
            rw [if_pos hT, Pr.bind_ok, Pr.add_false] at this
            exact this
          have HF := Lib.hid (HS1.out.top (tw 3) ts (k : Nat) hE HO1.out (by have := HT0.out; have := HO0.out.len; omega) (fun hb => ⟨by rw [(HPA.out (by trivial)).1], (HPA.out (by trivial)).2.1⟩))
          clear hs hc hE
          go_wp2_with fail
          refine HF.out.mono ?_
          intro e w99 hp
          obtain ⟨A99, n99, c99, rfl⟩ := hp.ret
          have HP := Lib.hid hp
          clear hp HF
          go_wp2_with fail
          go_ret
          exact HP.out
        | false =>
          have HS1 : Hid (Sd w h L lg w1 l false M) := Lib.hid hs
          have HO0 : Hid (Od w w1 A nn c t) := Lib.hid (HO0.out.chg hc HS0.out.lt)
          have he : R = (onB false l ((P n .stmt l).bind fun t l1 => (stmtsP (P n .stmt) j (ts ++ [t]) l1).bind fun ts l2 => ofP (tw 3) ts l2)).add M := by
            have hT : isT [125] l = false := by have := HV.out; rw [Bool.not_false, Bool.true_and] at this; exact this.symm
            have := HE.out
            rw [if_neg (by rw [hT]; simp), bind_assoc] at this
            exact this
          have HE := Lib.hid he
          clear hs hc he HS0
          have HC := Lib.hid (HS1.out.tree (ih .stmt h l _ false w1 HS1.out.rd (fun hb => bind_ne1 (onB_ne HE.out HNE.out hb))))
          go_wp2_with fail
          refine HC.out.mono ?_
          rintro e w2 ⟨t2, l2, b2, m2, A2, n2, c2, rfl, htl, ho, hs, hc, hsy⟩
          clear HC
          have HL2 : Hid (b2 = false → l2.length < l.length) := Lib.hid fun hb => by
            rcases hsy with ⟨e1, e2⟩ | ⟨e1, e2⟩
            · rw [hb] at e1; cases e1
            · exact (P_len n .stmt _ _ _ _ e2).2
          have he := onB_bind HE.out hsy
          try dsimp only at he
          obtain ⟨M2, hM⟩ : ∃ z, z = (M || m2) := ⟨_, rfl⟩
          rw [← hM] at he hs
          have HE := Lib.hid he
          have HT2 := Lib.hid htl
          have HO2 := Lib.hid ho
          clear he hsy hM htl ho
          have HS2 : Hid (Sd w h L lg w2 l2 b2 M2) := Lib.hid hs
          have HO0 : Hid (Od w w2 A nn c t) := Lib.hid (HO0.out.chg hc HS1.out.lt)
          clear hs hc HS1
          have HNL := Lib.hid HO0.out.len
          have HKK : Hid (b2 = false → k + 1 + l2.length ≤ 100000) := Lib.hid fun hb => by
            have h1 := HL2.out hb
            have h2 := (HPA.out (by trivial)).2.2
            omega
          have HK0 : Hid (k ≤ 100000) := Lib.hid (by have h2 := (HPA.out (by trivial)).2.2; omega)
          have hk0 := HK0.out
          clear hk
          by_cases hbig : nn ≤ 2048
          · have d2 : decide ((nn : Int) ≤ 2048) = true := decide_eq_true (by omega)
            have d2' : decide (nn ≤ 2048) = true := decide_eq_true hbig
            have HT0 : Hid (t.length ≤ 2048) := Lib.hid (by rw [← HNL.out]; exact hbig)
            have HSZ : Hid (w.heap.size ≤ w2.heap.size ∧ nn + n2 ≤ 1000000) := Lib.hid ⟨HS2.out.chg.size, by have := HT0.out; have := HT2.out; have := HO0.out.len; have := HO2.out.len; omega⟩
            go_wp2_with (at_builtin; refine wpList_app_tw rfl (.tmp 23) (.tmp 24) rfl w.heap.size nn c n2 c2 A A2 t t2 rfl HO0.out.own rfl HO2.out.len HO2.out.rd HSZ.out.2 HSZ.out.1 ?_; intro A3 c3 w3 ho9 hg9; have HOZ := Lib.hid (And.intro ho9 hg9); clear ho9 hg9)
            have HO3 : Hid (Od w w3 A3 (nn + n2) c3 (t ++ t2)) := Lib.hid ⟨by rw [List.length_append, HO0.out.len, HO2.out.len], HOZ.out.1⟩
            have HS3 : Hid (Sd w h L lg w3 l2 b2 M2) := Lib.hid (HS2.out.grown HO0.out HOZ.out.2)
            have HT3 : Hid ((t ++ t2).length ≤ 200000) := Lib.hid (by rw [List.length_append]; have := HT0.out; have := HT2.out; omega)
            clear HS2 HSZ HOZ
            have hlen : dbud w3 h < dbud wr h := by
              rw [HBU.out, HS3.out.bud]
              rcases hbb : b2 with _ | _
              · have := HL2.out hbb
                simp
                omega
              · simp
            have HLEN := Lib.hid hlen
            clear hlen
            go_wp2_with fail
            go_roundw
            case rel => exact ⟨ts ++ [t2], A3, (nn + n2), c3, (t ++ t2), l2, b2, M2, j, k + 1, rfl, by go_num, by rw [List.length_append]; have := HT0.out; have := HT2.out; omega, HO3.out, HS3.out, fun hb => ⟨by rw [List.length_append, (HPA.out (by trivial)).1]; rfl, parts_more (HPA.out (by trivial)).2.1, HKK.out hb⟩, by omega, HE.out⟩
            case measure => exact HLEN.out
          · have d2 : decide ((nn : Int) ≤ 2048) = false := decide_eq_false (by omega)
            have d2' : decide (nn ≤ 2048) = false := decide_eq_false hbig
            have hlen : dbud w2 h < dbud wr h := by
              rw [HBU.out, HS2.out.bud]
              rcases hbb : b2 with _ | _
              · have := HL2.out hbb
                simp
                omega
              · simp
            have HLEN := Lib.hid hlen
            clear hlen
            go_wp2_with fail
            go_roundw
            case rel => exact ⟨ts ++ [t2], A, nn, c, t, l2, b2, M2, j, k + 1, rfl, by go_num, HT0.out, HO0.out, HS2.out, fun hb => ⟨by rw [List.length_append, (HPA.out (by trivial)).1]; rfl, parts_skip (by rw [← HNL.out]; omega) (HPA.out (by trivial)).2.1, HKK.out hb⟩, by omega, HE.out⟩
            case measure => exact HLEN.out
end Go.Proofs.YtbcadlocldplfaaGreat
