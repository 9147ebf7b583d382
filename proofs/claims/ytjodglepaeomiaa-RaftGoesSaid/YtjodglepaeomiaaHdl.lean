/- Contract of Handle. -/
import Derived.Deep.WholeRow
import Derived.Test.YtjodglepaeomiaaApp
namespace Go.Proofs.Ytjodglepaeomiaa
open Go.RowKit

theorem rises_mono : ∀ (l : List Ent) (a b c : Int), b ≤ c → rises l a b = true → rises l a c = true
  | [], _, _, _, _, _ => rfl
  | x :: r, a, b, c, hbc, h => by
    simp only [rises, Bool.and_eq_true, Bool.not_eq_true', Bool.or_eq_false_iff, decide_eq_false_iff_not] at h ⊢
    exact ⟨⟨⟨h.1.1.1, by omega⟩, h.1.2⟩, rises_mono r _ b c hbc h.2⟩
theorem Sv.Ok.low {S : Sv} (h : S.Ok) {t : Int} (h1 : S.term < t) (h2 : t ≤ 1152921504606846976) : (S.low t).Ok :=
  ⟨h.id, h.n, by have := h.t0; show 0 ≤ t; omega, h2, by show (-1 : Int) ≤ -1; omega, by show (-1 : Int) < S.n; omega, h.len, rises_mono _ _ _ _ (Int.le_of_lt h1) h.log, Nat.zero_le _, by show (-1 : Int) ≤ -1; omega, by show (-1 : Int) < 7; omega, h.com, by show 0 < 128; omega, h.nxl, h.mtl, h.nx4, h.mt4, fun h => absurd (show (0 : Nat) = 2 from h) (by decide), fun h => absurd (show (0 : Nat) = 2 from h) (by decide), fun h => absurd (show (0 : Nat) = 2 from h) (by decide)⟩
structure Heard (S : Sv) (m : Mg) : Prop where
  kind : m.kind = 1 ∨ m.kind = 2 ∨ m.kind = 3 ∨ m.kind = 4
  to : m.to = S.id
  frm0 : 0 ≤ m.frm
  frm1 : m.frm < S.n
  frm2 : m.frm ≠ S.id
  t1 : 1 ≤ m.term
  t2 : m.term ≤ 1152921504606846976
  i0 : 0 ≤ m.index
  i1 : m.index ≤ 4096
  l0 : 0 ≤ m.logTerm
  l1 : m.logTerm ≤ m.term
  c0 : 0 ≤ m.commit
  len : (m.ents.length : Int) ≤ 4096 - m.index
  plain : m.plain = true
  rises : rises m.ents (max 1 m.logTerm) m.term = true
theorem heard {S : Sv} {m : Mg} (h : S.hears m = true) : Heard S m := by
  unfold Sv.hears at h
  simp only [Bool.and_eq_true, Bool.not_eq_true', Bool.or_eq_false_iff, decide_eq_false_iff_not] at h
  obtain ⟨⟨⟨⟨⟨⟨⟨h1, ⟨h2, h3⟩, h4⟩, h5, h6⟩, h7, h8⟩, h9, h10⟩, h11⟩, h12⟩, hp, hr⟩ := h
  have hk : m.kind = 1 ∨ m.kind = 2 ∨ m.kind = 3 ∨ m.kind = 4 := by
    have hp2 := hp
    unfold Mg.plain plB at hp2
    by_cases k1 : m.kind = 1
    · exact .inl k1
    · by_cases k2 : m.kind = 2
      · exact .inr (.inl k2)
      · by_cases k3 : m.kind = 3
        · exact .inr (.inr (.inl k3))
        · by_cases k4 : m.kind = 4
          · exact .inr (.inr (.inr k4))
          · simp [k1, k2, k3, k4] at hp2
  exact ⟨hk, by omega, by omega, by omega, by omega, by omega, by omega, by omega, by omega, by omega, by omega, by omega, by omega, hp, hr⟩
set_option maxRecDepth 100000 in
set_option maxHeartbeats 16000000 in
theorem handle_any (S : Sv) (m : Mg) (g : Nat) (A E : Option Addr) (cs c : Nat) (w : World) (hS : SvR w g S A cs) (hm : MgOk m) (hrd : RdE w E m.ents) (hE : ∀ a, E = some a → m.ents ≠ [] → a.block ≠ g) (hnc : m.ents.length ≤ c) (hE0 : E = none → c = 0) :
    Calls Try.prog 10 #[.pointer (some ⟨g, 0, none⟩), .agg (mcell E c m).toArray] w (OutS w g A (S.handle m).1 (S.handle m).2) := by
  have hbx : Below w.heap.size w (w.alloc (mbox E c m)) := (Below.refl _ w).alloc (Nat.le_refl _) _
  have HHR := Lib.hid (hears_any S m g A E cs c (w.alloc (mbox E c m)) (hS.below hbx) (hrd.below hbx) hm)
  have HQ := Lib.hid (show S.handle m = if S.hears m then (S.up m).does m else (S, []) from rfl)
  have HHD := Lib.hid (fun h => heard (S := S) (m := m) h)
  have HARG := Lib.hid (And.intro hS (And.intro hrd (And.intro hE (And.intro hnc hE0))))
  obtain ⟨S', ms, hq'⟩ : ∃ (S' : Sv) (ms : List Mg), S.handle m = (S', ms) := ⟨_, _, rfl⟩
  rw [hq'] at HQ ⊢
  clear hq'
  obtain ⟨R, hR⟩ : ∃ b, b = S.hears m := ⟨_, rfl⟩
  rw [← hR] at HQ HHR HHD
  obtain ⟨M, hM⟩ : ∃ z, z = m := ⟨_, rfl⟩
  rw [← hM] at HQ HHD HARG
  have HM := Lib.hid hM
  clear hM hR
  dsimp only
  obtain ⟨mk, frm, to, term, index, logTerm, ents, commit, mok⟩ := m
  dsimp only [mcell, mbox] at HHR hrd hE hnc hbx ⊢
  clear hbx
  obtain ⟨n, hn⟩ : ∃ z, z = ents.length := ⟨_, rfl⟩
  have HNN := Lib.hid hn
  rw [← hn] at HHR hnc ⊢
  clear hn hE hE0 hnc hm
  have HBX : Hid (Below w.heap.size w (w.alloc (.cells #[.int .u8 (mk : Nat), .int .i64 frm, .int .i64 to, .int .i64 term, .int .i64 index, .int .i64 logTerm, .slice E n c, .int .i64 commit, .bool mok] 34)) ∧ Blk (w.alloc (.cells #[.int .u8 (mk : Nat), .int .i64 frm, .int .i64 to, .int .i64 term, .int .i64 index, .int .i64 logTerm, .slice E n c, .int .i64 commit, .bool mok] 34)) w.heap.size 34 #[.int .u8 (mk : Nat), .int .i64 frm, .int .i64 to, .int .i64 term, .int .i64 index, .int .i64 logTerm, .slice E n c, .int .i64 commit, .bool mok]) := ⟨(Below.refl _ w).alloc (Nat.le_refl _) _, Blk.new _ _ _⟩
  have hsz : (w.alloc (.cells #[.int .u8 (mk : Nat), .int .i64 frm, .int .i64 to, .int .i64 term, .int .i64 index, .int .i64 logTerm, .slice E n c, .int .i64 commit, .bool mok] 34)).heap.size = w.heap.size + 1 := by simp
  have HS := Lib.hid (hS.below HBX.out.1)
  have hbg : ¬ w.heap.size = g := by have := hS.lt; omega
  have HRD := Lib.hid (hrd.below HBX.out.1)
  obtain ⟨sn, hsn⟩ : ∃ z, z = S.n := ⟨_, rfl⟩
  have HSN := Lib.hid hsn
  have hsn0 : 0 < sn := by have := hS.ok.id; omega
  have HMD := Lib.hid (made_any (w.alloc (.cells #[.int .u8 (mk : Nat), .int .i64 frm, .int .i64 to, .int .i64 term, .int .i64 index, .int .i64 logTerm, .slice E n c, .int .i64 commit, .bool mok] 34)) g sn (by rw [hsn]; exact HS.out.c1) hsn0)
  clear hS hrd hsn
  go_enter Try.func10, Try.ntmps10
  go_wp2_with fail
  generalize w.alloc (.cells #[.int .u8 (mk : Nat), .int .i64 frm, .int .i64 to, .int .i64 term, .int .i64 index, .int .i64 logTerm, .slice E n c, .int .i64 commit, .bool mok] 34) = w0 at *
  refine HMD.out.mono ?_
  rintro e w1 ⟨rfl, hw1⟩
  rw [hw1]
  clear hw1 w1 HMD
  go_wp2_with (first | (refine BigFrame.wpList_want rfl fun K hK => wp_load_row 34 _ rfl w.heap.size rfl 34 #[.int .u8 (mk : Nat), .int .i64 frm, .int .i64 to, .int .i64 term, .int .i64 index, .int .i64 logTerm, .slice E n c, .int .i64 commit, .bool mok] (0, 0) _ HBX.out.2 Try.underlying34 rfl (by kernel_rfl) (hK _ _ ?_)) | fail)
  refine HHR.out.mono ?_
  rintro e w1 ⟨rfl, hb1⟩
  have HB1 : Hid (Below w.heap.size w w1 ∧ Blk w1 w.heap.size 34 #[.int .u8 (mk : Nat), .int .i64 frm, .int .i64 to, .int .i64 term, .int .i64 index, .int .i64 logTerm, .slice E n c, .int .i64 commit, .bool mok] ∧ SvM w1 g S A cs ∧ RdE w1 E ents) := Lib.hid ⟨HBX.out.1.trans (hb1.mono HBX.out.1.size), HBX.out.2.below hb1 HBX.out.2.lt, HS.out.toSvM.below (hb1.mono (by omega)), HRD.out.below hb1⟩
  clear hb1 HHR
  cases R
  · have HQ1 : Hid ((S', ms) = (S, [])) := Lib.hid (by rw [HQ.out]; rfl)
    go_wp2_with fail
    go_ret
    have h := HQ1.out
    injection h with h1 h2
    rw [h1, h2]
    exact OutS.nil ⟨A, cs, HB1.out.2.2.1, .of_below HB1.out.1, fun a ha => .inl ⟨a, ha, rfl⟩⟩
  · have HHE := Lib.hid (HHD.out rfl)
    clear HHD
    rw [HM.out] at HHE
    have x0 : w1.cell? ⟨w.heap.size, 0, none⟩ = some (.int .u8 (mk : Nat)) := HB1.out.2.1.cell 0
    have x3 : w1.cell? ⟨w.heap.size, 3, none⟩ = some (.int .i64 term) := HB1.out.2.1.cell 3
    have c2 := HB1.out.2.2.1.c2
    have HQ1 : Hid ((S', ms) = (S.up M).does M) := Lib.hid (by rw [HQ.out]; rfl)
    clear HQ
    obtain ⟨k, hk⟩ := Int.eq_ofNat_of_zero_le HHE.out.frm0
    dsimp only at hk
    subst hk
    obtain ⟨i, hi⟩ := Int.eq_ofNat_of_zero_le HHE.out.i0
    dsimp only at hi
    subst hi
    obtain ⟨q, hq⟩ := Int.eq_ofNat_of_zero_le HHE.out.c0
    dsimp only at hq
    subst hq
    have HEE : Hid (∀ a, E = some a → ents ≠ [] → a.block ≠ g) := Lib.hid (fun a ha hne => HARG.out.2.2.1 a ha (by rw [HM.out]; exact hne))
    by_cases ht : S.term < term
    · have d1 : decide (S.term < term) = true := decide_eq_true ht
      have hkn : k < (S.low term).n := by have := HHE.out.frm1; show k < S.n; exact Int.ofNat_lt.1 this
      have hup : S.up M = S.low term := by rw [HM.out]; show (if S.term < term then S.low term else S) = _; rw [if_pos ht]
      rw [hup] at HQ1
      have HUO : Hid ((S.low term).Ok ∧ k < (S.low term).n) := Lib.hid ⟨HARG.out.1.ok.low ht HHE.out.t2, hkn⟩
      clear hup hkn
      go_wp2_with fail
      go_quiet (fail)
      have HB2 : Hid (Chg (SvT g A) w (w1.drewN nq) ∧ Blk (w1.drewN nq) w.heap.size 34 #[.int .u8 (mk : Nat), .int .i64 (k : Nat), .int .i64 to, .int .i64 term, .int .i64 (i : Nat), .int .i64 logTerm, .slice E n c, .int .i64 (q : Nat), .bool mok] ∧ SvM (w1.drewN nq) g S A cs ∧ RdE (w1.drewN nq) E ents) := Lib.hid ⟨.of_below (below_drewN HB1.out.1 nq), HB1.out.2.1.drewN nq, HB1.out.2.2.1.drewN nq, HB1.out.2.2.2.below (below_drewN (Below.refl _ _) nq)⟩
      generalize w1.drewN nq = w2 at *
      have y2 := HB2.out.2.2.1.c2
      have y3' : w2.cell? ⟨w.heap.size, 3, none⟩ = some (.int .i64 term) := HB2.out.2.1.cell 3
      have f2 : w2.frozen? ⟨g, 2, none⟩ = false := HB2.out.2.2.1.top.frozen 2
      have s2 := HB2.out.2.2.1.set (S' := { S with term := term }) 2 (.int .i64 term) rfl HB2.out.2.2.1.nxl HB2.out.2.2.1.mtl rfl
      have s3 := s2.1.set (S' := { S with term := term, vote := -1 }) 3 (.int .i64 (-1)) rfl HB2.out.2.2.1.nxl HB2.out.2.2.1.mtl rfl
      have s5 := s3.1.set (S' := { S with term := term, vote := -1, role := 0 }) 5 (.int .u8 0) rfl HB2.out.2.2.1.nxl HB2.out.2.2.1.mtl rfl
      have s6 := s5.1.set (S' := { S with term := term, vote := -1, role := 0, leader := -1 }) 6 (.int .i64 (-1)) rfl HB2.out.2.2.1.nxl HB2.out.2.2.1.mtl rfl
      have s8 := s6.1.set (S' := S.low term) 8 (.int .u64 0) rfl HB2.out.2.2.1.nxl HB2.out.2.2.1.mtl rfl
      have d3 : (w2.setCell ⟨g, 2, none⟩ (.int .i64 term)).cell? ⟨g, 3, none⟩ = _ := s2.1.c3
      have g3 : (w2.setCell ⟨g, 2, none⟩ (.int .i64 term)).frozen? ⟨g, 3, none⟩ = false := s2.1.top.frozen 3
      have d5 : ((w2.setCell ⟨g, 2, none⟩ (.int .i64 term)).setCell ⟨g, 3, none⟩ (.int .i64 (-1))).cell? ⟨g, 5, none⟩ = _ := s3.1.c5
      have g5 : ((w2.setCell ⟨g, 2, none⟩ (.int .i64 term)).setCell ⟨g, 3, none⟩ (.int .i64 (-1))).frozen? ⟨g, 5, none⟩ = false := s3.1.top.frozen 5
      have d6 : (((w2.setCell ⟨g, 2, none⟩ (.int .i64 term)).setCell ⟨g, 3, none⟩ (.int .i64 (-1))).setCell ⟨g, 5, none⟩ (.int .u8 0)).cell? ⟨g, 6, none⟩ = _ := s5.1.c6
      have g6 : (((w2.setCell ⟨g, 2, none⟩ (.int .i64 term)).setCell ⟨g, 3, none⟩ (.int .i64 (-1))).setCell ⟨g, 5, none⟩ (.int .u8 0)).frozen? ⟨g, 6, none⟩ = false := s5.1.top.frozen 6
      have d8 : ((((w2.setCell ⟨g, 2, none⟩ (.int .i64 term)).setCell ⟨g, 3, none⟩ (.int .i64 (-1))).setCell ⟨g, 5, none⟩ (.int .u8 0)).setCell ⟨g, 6, none⟩ (.int .i64 (-1))).cell? ⟨g, 8, none⟩ = _ := s6.1.c8
      have g8 : ((((w2.setCell ⟨g, 2, none⟩ (.int .i64 term)).setCell ⟨g, 3, none⟩ (.int .i64 (-1))).setCell ⟨g, 5, none⟩ (.int .u8 0)).setCell ⟨g, 6, none⟩ (.int .i64 (-1))).frozen? ⟨g, 8, none⟩ = false := s6.1.top.frozen 8
      have hch := s2.2.trans (s3.2.trans (s5.2.trans (s6.2.trans s8.2)))
      have HU0 : Hid (Chg (SvT g A) w (((((w2.setCell ⟨g, 2, none⟩ (.int .i64 term)).setCell ⟨g, 3, none⟩ (.int .i64 (-1))).setCell ⟨g, 5, none⟩ (.int .u8 0)).setCell ⟨g, 6, none⟩ (.int .i64 (-1))).setCell ⟨g, 8, none⟩ (.int .u64 0)) ∧ Blk (((((w2.setCell ⟨g, 2, none⟩ (.int .i64 term)).setCell ⟨g, 3, none⟩ (.int .i64 (-1))).setCell ⟨g, 5, none⟩ (.int .u8 0)).setCell ⟨g, 6, none⟩ (.int .i64 (-1))).setCell ⟨g, 8, none⟩ (.int .u64 0)) w.heap.size 34 #[.int .u8 (mk : Nat), .int .i64 (k : Nat), .int .i64 to, .int .i64 term, .int .i64 (i : Nat), .int .i64 logTerm, .slice E n c, .int .i64 (q : Nat), .bool mok] ∧ SvM (((((w2.setCell ⟨g, 2, none⟩ (.int .i64 term)).setCell ⟨g, 3, none⟩ (.int .i64 (-1))).setCell ⟨g, 5, none⟩ (.int .u8 0)).setCell ⟨g, 6, none⟩ (.int .i64 (-1))).setCell ⟨g, 8, none⟩ (.int .u64 0)) g (S.low term) A cs ∧ RdE (((((w2.setCell ⟨g, 2, none⟩ (.int .i64 term)).setCell ⟨g, 3, none⟩ (.int .i64 (-1))).setCell ⟨g, 5, none⟩ (.int .u8 0)).setCell ⟨g, 6, none⟩ (.int .i64 (-1))).setCell ⟨g, 8, none⟩ (.int .u64 0)) E ents) := Lib.hid ⟨HB2.out.1.trans (hch.mono (fun b hb => .inl hb)), HB2.out.2.1.chg hch (fun h => hbg h), s8.1, HB2.out.2.2.2.chg hch (fun a ha hne he => HEE.out a ha hne he)⟩
      clear s2 s3 s5 s6 s8 hch HB2
      iterate 80 go_step
      clear d3 d5 d6 d8 g3 g5 g6 g8 f2 y2 y3'
      generalize (((((w2.setCell ⟨g, 2, none⟩ (.int .i64 term)).setCell ⟨g, 3, none⟩ (.int .i64 (-1))).setCell ⟨g, 5, none⟩ (.int .u8 0)).setCell ⟨g, 6, none⟩ (.int .i64 (-1))).setCell ⟨g, 8, none⟩ (.int .u64 0)) = w8 at *
      go_wp2_with (first | (refine wpList_store_row rfl 86 (.tmp 5) (.tmp 42) rfl _ #[.nilFunc, .func (.func 43) #[] #[], .func (.func 44) #[] #[], .func (.func 45) #[] #[], .func (.func 46) #[] #[]] rfl rfl 86 #[.nilFunc, .nilFunc, .nilFunc, .nilFunc, .nilFunc] (Blk.new _ _ _) (by kernel_rfl) rfl (by kernel_rfl) ?_; rw [World.setRow_alloc_new]) | fail)
      have HB3 : Hid (Below w8.heap.size w8 (w8.alloc (.cells #[.nilFunc, .func (.func 43) #[] #[], .func (.func 44) #[] #[], .func (.func 45) #[] #[], .func (.func 46) #[] #[]] 86)) ∧ Blk (w8.alloc (.cells #[.nilFunc, .func (.func 43) #[] #[], .func (.func 44) #[] #[], .func (.func 45) #[] #[], .func (.func 46) #[] #[]] 86)) w8.heap.size 86 #[.nilFunc, .func (.func 43) #[] #[], .func (.func 44) #[] #[], .func (.func 45) #[] #[], .func (.func 46) #[] #[]]) := Lib.hid ⟨(Below.refl _ _).alloc (Nat.le_refl _) _, Blk.new _ _ _⟩
      generalize w8.alloc (.cells #[.nilFunc, .func (.func 43) #[] #[], .func (.func 44) #[] #[], .func (.func 45) #[] #[], .func (.func 46) #[] #[]] 86) = w3 at *
      have HX : Hid (∀ W, Below w3.heap.size w3 W → SvM W g (S.low term) A cs ∧ Chg (SvT g A) w W ∧ RdE W E ents ∧ W.cell? ⟨w.heap.size, 0, none⟩ = some (.int .u8 (mk : Nat)) ∧ W.heap[w.heap.size]? = some (.cells #[.int .u8 (mk : Nat), .int .i64 (k : Nat), .int .i64 to, .int .i64 term, .int .i64 (i : Nat), .int .i64 logTerm, .slice E n c, .int .i64 (q : Nat), .bool mok] 34 (0, 0)) ∧ Blk W w8.heap.size 86 #[.nilFunc, .func (.func 43) #[] #[], .func (.func 44) #[] #[], .func (.func 45) #[] #[], .func (.func 46) #[] #[]]) := Lib.hid (fun W hW => ⟨(HU0.out.2.2.1.below HB3.out.1).below hW, HU0.out.1.trans ((Chg.of_below HB3.out.1).trans (.of_below hW)), (HU0.out.2.2.2.below HB3.out.1).below hW, ((HU0.out.2.1.below HB3.out.1 HU0.out.2.1.lt).below hW (Nat.lt_of_lt_of_le HU0.out.2.1.lt HB3.out.1.size)).cell 0, (HU0.out.2.1.below HB3.out.1 HU0.out.2.1.lt).below hW (Nat.lt_of_lt_of_le HU0.out.2.1.lt HB3.out.1.size), HB3.out.2.below hW HB3.out.2.lt⟩)
      have HBN : Hid (∀ a, A = some a → (∃ a0, A = some a0 ∧ a.block = a0.block) ∨ w.heap.size ≤ a.block) := Lib.hid (fun a ha => .inl ⟨a, ha, rfl⟩)
      have HMX : Hid (M = ⟨mk, (k : Nat), to, term, (i : Nat), logTerm, ents, (q : Nat), mok⟩) := HM.out
      have HI : Hid (i + ents.length ≤ 4096) := by have := HHE.out.len; dsimp only at this; exact Lib.hid (by omega)
      have HNC : Hid (ents.length ≤ c ∧ (E = none → c = 0)) := by have h := HARG.out.2.2.2; rw [HM.out] at h; exact Lib.hid h
      simp only [Act.put, List.setIfInBounds_toArray, List.set_cons_succ, List.set_cons_zero]
      rcases (show mk = 1 ∨ mk = 2 ∨ mk = 3 ∨ mk = 4 from HHE.out.kind) with h | h | h | h
      · subst h
        have HQ2 : Hid ((S', ms) = (S.low term).asked ⟨1, (k : Nat), to, term, (i : Nat), logTerm, ents, (q : Nat), mok⟩) := Lib.hid (by rw [HQ1.out, HMX.out]; rfl)
        refine wp_region_plan (.q 0 (.q 1 (.q 2 (.q 3 (.q 4 (.q 5 (.a1 6 (.q 7 .fin)))))))) 6 (fun W => Below w3.heap.size w3 W) (by kernel_rfl) rfl (by kernel_rfl) (Below.refl _ _).drew ?_
        refine wpPlan_q rfl rfl rfl ?_; intro K hK
        go_big_quiet_op
        first | go_big_quiet_on | (refine ⟨_, fun _ _ => rfl, ?_⟩; go_big_quiet_on)
        refine wpPlan_q rfl rfl rfl ?_; intro K hK
        refine ⟨(.int .u8 1), fun W hW => ?_, ?_⟩
        · have q0 := (HX.out W hW).2.2.2.1
          unfold Oper.quietAt Oper.quietUpon
          simp [go_sem, q0]
        refine hK _ ?_
        clear hK K
        try simp only [Act.put, List.setIfInBounds_toArray, List.set_cons_succ, List.set_cons_zero]
        refine wpPlan_q rfl rfl rfl ?_; intro K hK
        refine ⟨.pointer (some ⟨w8.heap.size, 1, none⟩), fun W hW => ?_, ?_⟩
        · unfold Oper.quietAt Oper.quietUpon
          simp [go_sem]
        refine hK _ ?_
        clear hK K
        try simp only [Act.put, List.setIfInBounds_toArray, List.set_cons_succ, List.set_cons_zero]
        refine wpPlan_q rfl rfl rfl ?_; intro K hK
        refine ⟨(.func (.func 43) #[] #[]), fun W hW => ?_, ?_⟩
        · have q0 := (HX.out W hW).2.2.2.2.2.cell 1
          unfold Oper.quietAt Oper.quietUpon
          simp [go_sem, q0]
        refine hK _ ?_
        clear hK K
        try simp only [Act.put, List.setIfInBounds_toArray, List.set_cons_succ, List.set_cons_zero]
        refine wpPlan_q rfl rfl rfl ?_; intro K hK
        go_big_quiet_op
        first | go_big_quiet_on | (refine ⟨_, fun _ _ => rfl, ?_⟩; go_big_quiet_on)
        refine wpPlan_q rfl rfl rfl ?_; intro K hK
        refine quiet_load_row 34 (.tmp 3) rfl w.heap.size rfl 34 #[.int .u8 (1 : Nat), .int .i64 (k : Nat), .int .i64 to, .int .i64 term, .int .i64 (i : Nat), .int .i64 logTerm, .slice E n c, .int .i64 (q : Nat), .bool mok] (0, 0) _ (fun W hW => (HX.out W hW).2.2.2.2.1) Try.underlying34 rfl (by kernel_rfl) ?_
        refine hK _ ?_
        clear hK K
        try simp only [Act.put, List.setIfInBounds_toArray, List.set_cons_succ, List.set_cons_zero]
        refine wpPlan_act false rfl rfl rfl ?_; intro K hK
        go_simp
        refine Calls.mono (by have h := (asked_any (S.low term) ⟨1, (k : Nat), to, term, (i : Nat), logTerm, ents, (q : Nat), mok⟩ g A E cs c _ (HX.out _ (Below.refl _ _).drew).1 HUO.out.1.len); dsimp only [mcell] at h; rw [HNN.out]; exact h) ?_
        intro e w9 ho9
        rw [← HQ2.out] at ho9
        have HOUT := Lib.hid (OutS.after (HX.out _ (Below.refl _ _).drew).2.1 HBN.out ho9)
        clear ho9
        obtain ⟨A', c', B, D, d, _, _, _, _, _, rfl, _⟩ := HOUT.out
        generalize ms.length = ol at *
        refine hK _ _ (fun h => by cases h) ?_
        clear hK K
        try simp only [Act.put, List.setIfInBounds_toArray, List.set_cons_succ, List.set_cons_zero]
        refine wpPlan_p rfl rfl rfl ?_; intro K hK
        go_big_quiet_op
        first | go_big_quiet_on | (refine ⟨_, fun _ _ => rfl, ?_⟩; go_big_quiet_on)
        refine wpPlan_fin ?_
        go_wp2_with fail
        go_ret
        exact HOUT.out
      · subst h
        have HQ2 : Hid ((S', ms) = (S.low term).voted ⟨2, (k : Nat), to, term, (i : Nat), logTerm, ents, (q : Nat), mok⟩) := Lib.hid (by rw [HQ1.out, HMX.out]; rfl)
        refine wp_region_plan (.q 0 (.q 1 (.q 2 (.q 3 (.q 4 (.q 5 (.a1 6 (.q 7 .fin)))))))) 6 (fun W => Below w3.heap.size w3 W) (by kernel_rfl) rfl (by kernel_rfl) (Below.refl _ _).drew ?_
        refine wpPlan_q rfl rfl rfl ?_; intro K hK
        go_big_quiet_op
        first | go_big_quiet_on | (refine ⟨_, fun _ _ => rfl, ?_⟩; go_big_quiet_on)
        refine wpPlan_q rfl rfl rfl ?_; intro K hK
        refine ⟨(.int .u8 2), fun W hW => ?_, ?_⟩
        · have q0 := (HX.out W hW).2.2.2.1
          unfold Oper.quietAt Oper.quietUpon
          simp [go_sem, q0]
        refine hK _ ?_
        clear hK K
        try simp only [Act.put, List.setIfInBounds_toArray, List.set_cons_succ, List.set_cons_zero]
        refine wpPlan_q rfl rfl rfl ?_; intro K hK
        refine ⟨.pointer (some ⟨w8.heap.size, 2, none⟩), fun W hW => ?_, ?_⟩
        · unfold Oper.quietAt Oper.quietUpon
          simp [go_sem]
        refine hK _ ?_
        clear hK K
        try simp only [Act.put, List.setIfInBounds_toArray, List.set_cons_succ, List.set_cons_zero]
        refine wpPlan_q rfl rfl rfl ?_; intro K hK
        refine ⟨(.func (.func 44) #[] #[]), fun W hW => ?_, ?_⟩
        · have q0 := (HX.out W hW).2.2.2.2.2.cell 2
          unfold Oper.quietAt Oper.quietUpon
          simp [go_sem, q0]
        refine hK _ ?_
        clear hK K
        try simp only [Act.put, List.setIfInBounds_toArray, List.set_cons_succ, List.set_cons_zero]
        refine wpPlan_q rfl rfl rfl ?_; intro K hK
        go_big_quiet_op
        first | go_big_quiet_on | (refine ⟨_, fun _ _ => rfl, ?_⟩; go_big_quiet_on)
        refine wpPlan_q rfl rfl rfl ?_; intro K hK
        refine quiet_load_row 34 (.tmp 3) rfl w.heap.size rfl 34 #[.int .u8 (2 : Nat), .int .i64 (k : Nat), .int .i64 to, .int .i64 term, .int .i64 (i : Nat), .int .i64 logTerm, .slice E n c, .int .i64 (q : Nat), .bool mok] (0, 0) _ (fun W hW => (HX.out W hW).2.2.2.2.1) Try.underlying34 rfl (by kernel_rfl) ?_
        refine hK _ ?_
        clear hK K
        try simp only [Act.put, List.setIfInBounds_toArray, List.set_cons_succ, List.set_cons_zero]
        refine wpPlan_act false rfl rfl rfl ?_; intro K hK
        go_simp
        refine Calls.mono (by have h := (voted_any (S.low term) ⟨2, (k : Nat), to, term, (i : Nat), logTerm, ents, (q : Nat), mok⟩ g k A E cs c _ (HX.out _ (Below.refl _ _).drew).1 HUO.out.1.len HUO.out.1.n (Nat.le_trans HUO.out.1.com HUO.out.1.len) HUO.out.1.vot rfl HUO.out.2); dsimp only [mcell] at h; rw [HNN.out]; exact h) ?_
        intro e w9 ho9
        rw [← HQ2.out] at ho9
        have HOUT := Lib.hid (OutS.after (HX.out _ (Below.refl _ _).drew).2.1 HBN.out ho9)
        clear ho9
        obtain ⟨A', c', B, D, d, _, _, _, _, _, rfl, _⟩ := HOUT.out
        generalize ms.length = ol at *
        refine hK _ _ (fun h => by cases h) ?_
        clear hK K
        try simp only [Act.put, List.setIfInBounds_toArray, List.set_cons_succ, List.set_cons_zero]
        refine wpPlan_p rfl rfl rfl ?_; intro K hK
        go_big_quiet_op
        first | go_big_quiet_on | (refine ⟨_, fun _ _ => rfl, ?_⟩; go_big_quiet_on)
        refine wpPlan_fin ?_
        go_wp2_with fail
        go_ret
        exact HOUT.out
      · subst h
        have HQ2 : Hid ((S', ms) = (S.low term).appended ⟨3, (k : Nat), to, term, (i : Nat), logTerm, ents, (q : Nat), mok⟩) := Lib.hid (by rw [HQ1.out, HMX.out]; rfl)
        refine wp_region_plan (.q 0 (.q 1 (.q 2 (.q 3 (.q 4 (.q 5 (.a1 6 (.q 7 .fin)))))))) 6 (fun W => Below w3.heap.size w3 W) (by kernel_rfl) rfl (by kernel_rfl) (Below.refl _ _).drew ?_
        refine wpPlan_q rfl rfl rfl ?_; intro K hK
        go_big_quiet_op
        first | go_big_quiet_on | (refine ⟨_, fun _ _ => rfl, ?_⟩; go_big_quiet_on)
        refine wpPlan_q rfl rfl rfl ?_; intro K hK
        refine ⟨(.int .u8 3), fun W hW => ?_, ?_⟩
        · have q0 := (HX.out W hW).2.2.2.1
          unfold Oper.quietAt Oper.quietUpon
          simp [go_sem, q0]
        refine hK _ ?_
        clear hK K
        try simp only [Act.put, List.setIfInBounds_toArray, List.set_cons_succ, List.set_cons_zero]
        refine wpPlan_q rfl rfl rfl ?_; intro K hK
        refine ⟨.pointer (some ⟨w8.heap.size, 3, none⟩), fun W hW => ?_, ?_⟩
        · unfold Oper.quietAt Oper.quietUpon
          simp [go_sem]
        refine hK _ ?_
        clear hK K
        try simp only [Act.put, List.setIfInBounds_toArray, List.set_cons_succ, List.set_cons_zero]
        refine wpPlan_q rfl rfl rfl ?_; intro K hK
        refine ⟨(.func (.func 45) #[] #[]), fun W hW => ?_, ?_⟩
        · have q0 := (HX.out W hW).2.2.2.2.2.cell 3
          unfold Oper.quietAt Oper.quietUpon
          simp [go_sem, q0]
        refine hK _ ?_
        clear hK K
        try simp only [Act.put, List.setIfInBounds_toArray, List.set_cons_succ, List.set_cons_zero]
        refine wpPlan_q rfl rfl rfl ?_; intro K hK
        go_big_quiet_op
        first | go_big_quiet_on | (refine ⟨_, fun _ _ => rfl, ?_⟩; go_big_quiet_on)
        refine wpPlan_q rfl rfl rfl ?_; intro K hK
        refine quiet_load_row 34 (.tmp 3) rfl w.heap.size rfl 34 #[.int .u8 (3 : Nat), .int .i64 (k : Nat), .int .i64 to, .int .i64 term, .int .i64 (i : Nat), .int .i64 logTerm, .slice E n c, .int .i64 (q : Nat), .bool mok] (0, 0) _ (fun W hW => (HX.out W hW).2.2.2.2.1) Try.underlying34 rfl (by kernel_rfl) ?_
        refine hK _ ?_
        clear hK K
        try simp only [Act.put, List.setIfInBounds_toArray, List.set_cons_succ, List.set_cons_zero]
        refine wpPlan_act false rfl rfl rfl ?_; intro K hK
        go_simp
        refine Calls.mono (by have h := (appended_any (S.low term) ⟨3, (k : Nat), to, term, (i : Nat), logTerm, ents, (q : Nat), mok⟩ g i q A E cs c _ (HX.out _ (Below.refl _ _).drew).1 HUO.out.1 (HX.out _ (Below.refl _ _).drew).2.2.1 HEE.out HNC.out.1 HNC.out.2 rfl rfl HI.out); dsimp only [mcell] at h; rw [HNN.out]; exact h) ?_
        intro e w9 ho9
        rw [← HQ2.out] at ho9
        have HOUT := Lib.hid (OutS.after (HX.out _ (Below.refl _ _).drew).2.1 HBN.out ho9)
        clear ho9
        obtain ⟨A', c', B, D, d, _, _, _, _, _, rfl, _⟩ := HOUT.out
        generalize ms.length = ol at *
        refine hK _ _ (fun h => by cases h) ?_
        clear hK K
        try simp only [Act.put, List.setIfInBounds_toArray, List.set_cons_succ, List.set_cons_zero]
        refine wpPlan_p rfl rfl rfl ?_; intro K hK
        go_big_quiet_op
        first | go_big_quiet_on | (refine ⟨_, fun _ _ => rfl, ?_⟩; go_big_quiet_on)
        refine wpPlan_fin ?_
        go_wp2_with fail
        go_ret
        exact HOUT.out
      · subst h
        have HQ2 : Hid ((S', ms) = (S.low term).told ⟨4, (k : Nat), to, term, (i : Nat), logTerm, ents, (q : Nat), mok⟩) := Lib.hid (by rw [HQ1.out, HMX.out]; rfl)
        refine wp_region_plan (.q 0 (.q 1 (.q 2 (.q 3 (.q 4 (.q 5 (.a1 6 (.q 7 .fin)))))))) 6 (fun W => Below w3.heap.size w3 W) (by kernel_rfl) rfl (by kernel_rfl) (Below.refl _ _).drew ?_
        refine wpPlan_q rfl rfl rfl ?_; intro K hK
        go_big_quiet_op
        first | go_big_quiet_on | (refine ⟨_, fun _ _ => rfl, ?_⟩; go_big_quiet_on)
        refine wpPlan_q rfl rfl rfl ?_; intro K hK
        refine ⟨(.int .u8 4), fun W hW => ?_, ?_⟩
        · have q0 := (HX.out W hW).2.2.2.1
          unfold Oper.quietAt Oper.quietUpon
          simp [go_sem, q0]
        refine hK _ ?_
        clear hK K
        try simp only [Act.put, List.setIfInBounds_toArray, List.set_cons_succ, List.set_cons_zero]
        refine wpPlan_q rfl rfl rfl ?_; intro K hK
        refine ⟨.pointer (some ⟨w8.heap.size, 4, none⟩), fun W hW => ?_, ?_⟩
        · unfold Oper.quietAt Oper.quietUpon
          simp [go_sem]
        refine hK _ ?_
        clear hK K
        try simp only [Act.put, List.setIfInBounds_toArray, List.set_cons_succ, List.set_cons_zero]
        refine wpPlan_q rfl rfl rfl ?_; intro K hK
        refine ⟨(.func (.func 46) #[] #[]), fun W hW => ?_, ?_⟩
        · have q0 := (HX.out W hW).2.2.2.2.2.cell 4
          unfold Oper.quietAt Oper.quietUpon
          simp [go_sem, q0]
        refine hK _ ?_
        clear hK K
        try simp only [Act.put, List.setIfInBounds_toArray, List.set_cons_succ, List.set_cons_zero]
        refine wpPlan_q rfl rfl rfl ?_; intro K hK
        go_big_quiet_op
        first | go_big_quiet_on | (refine ⟨_, fun _ _ => rfl, ?_⟩; go_big_quiet_on)
        refine wpPlan_q rfl rfl rfl ?_; intro K hK
        refine quiet_load_row 34 (.tmp 3) rfl w.heap.size rfl 34 #[.int .u8 (4 : Nat), .int .i64 (k : Nat), .int .i64 to, .int .i64 term, .int .i64 (i : Nat), .int .i64 logTerm, .slice E n c, .int .i64 (q : Nat), .bool mok] (0, 0) _ (fun W hW => (HX.out W hW).2.2.2.2.1) Try.underlying34 rfl (by kernel_rfl) ?_
        refine hK _ ?_
        clear hK K
        try simp only [Act.put, List.setIfInBounds_toArray, List.set_cons_succ, List.set_cons_zero]
        refine wpPlan_act false rfl rfl rfl ?_; intro K hK
        go_simp
        refine Calls.mono (by have h := (told_any (S.low term) ⟨4, (k : Nat), to, term, (i : Nat), logTerm, ents, (q : Nat), mok⟩ g k i A E cs c _ (HX.out _ (Below.refl _ _).drew).1 HUO.out.1 rfl HUO.out.2 rfl (by have := HI.out; omega)); dsimp only [mcell] at h; rw [HNN.out]; exact h) ?_
        intro e w9 ho9
        rw [← HQ2.out] at ho9
        have HOUT := Lib.hid (OutS.after (HX.out _ (Below.refl _ _).drew).2.1 HBN.out ho9)
        clear ho9
        obtain ⟨A', c', B, D, d, _, _, _, _, _, rfl, _⟩ := HOUT.out
        generalize ms.length = ol at *
        refine hK _ _ (fun h => by cases h) ?_
        clear hK K
        try simp only [Act.put, List.setIfInBounds_toArray, List.set_cons_succ, List.set_cons_zero]
        refine wpPlan_p rfl rfl rfl ?_; intro K hK
        go_big_quiet_op
        first | go_big_quiet_on | (refine ⟨_, fun _ _ => rfl, ?_⟩; go_big_quiet_on)
        refine wpPlan_fin ?_
        go_wp2_with fail
        go_ret
        exact HOUT.out
    · have d1 : decide (S.term < term) = false := decide_eq_false ht
      have hkn : k < S.n := by have := HHE.out.frm1; exact Int.ofNat_lt.1 this
      have hup : S.up M = S := by rw [HM.out]; show (if S.term < term then S.low term else S) = _; rw [if_neg ht]
      rw [hup] at HQ1
      have HUO : Hid (S.Ok ∧ k < S.n) := Lib.hid ⟨HARG.out.1.ok, hkn⟩
      clear hup hkn
      go_wp2_with fail
      go_quiet (fail)
      have HU0 : Hid (Chg (SvT g A) w (w1.drewN nq) ∧ Blk (w1.drewN nq) w.heap.size 34 #[.int .u8 (mk : Nat), .int .i64 (k : Nat), .int .i64 to, .int .i64 term, .int .i64 (i : Nat), .int .i64 logTerm, .slice E n c, .int .i64 (q : Nat), .bool mok] ∧ SvM (w1.drewN nq) g S A cs ∧ RdE (w1.drewN nq) E ents) := Lib.hid ⟨.of_below (below_drewN HB1.out.1 nq), HB1.out.2.1.drewN nq, HB1.out.2.2.1.drewN nq, HB1.out.2.2.2.below (below_drewN (Below.refl _ _) nq)⟩
      generalize w1.drewN nq = w2 at *
      go_wp2_with (first | (refine wpList_store_row rfl 86 (.tmp 5) (.tmp 42) rfl _ #[.nilFunc, .func (.func 43) #[] #[], .func (.func 44) #[] #[], .func (.func 45) #[] #[], .func (.func 46) #[] #[]] rfl rfl 86 #[.nilFunc, .nilFunc, .nilFunc, .nilFunc, .nilFunc] (Blk.new _ _ _) (by kernel_rfl) rfl (by kernel_rfl) ?_; rw [World.setRow_alloc_new]) | fail)
      have HB3 : Hid (Below w2.heap.size w2 (w2.alloc (.cells #[.nilFunc, .func (.func 43) #[] #[], .func (.func 44) #[] #[], .func (.func 45) #[] #[], .func (.func 46) #[] #[]] 86)) ∧ Blk (w2.alloc (.cells #[.nilFunc, .func (.func 43) #[] #[], .func (.func 44) #[] #[], .func (.func 45) #[] #[], .func (.func 46) #[] #[]] 86)) w2.heap.size 86 #[.nilFunc, .func (.func 43) #[] #[], .func (.func 44) #[] #[], .func (.func 45) #[] #[], .func (.func 46) #[] #[]]) := Lib.hid ⟨(Below.refl _ _).alloc (Nat.le_refl _) _, Blk.new _ _ _⟩
      generalize w2.alloc (.cells #[.nilFunc, .func (.func 43) #[] #[], .func (.func 44) #[] #[], .func (.func 45) #[] #[], .func (.func 46) #[] #[]] 86) = w3 at *
      have HX : Hid (∀ W, Below w3.heap.size w3 W → SvM W g S A cs ∧ Chg (SvT g A) w W ∧ RdE W E ents ∧ W.cell? ⟨w.heap.size, 0, none⟩ = some (.int .u8 (mk : Nat)) ∧ W.heap[w.heap.size]? = some (.cells #[.int .u8 (mk : Nat), .int .i64 (k : Nat), .int .i64 to, .int .i64 term, .int .i64 (i : Nat), .int .i64 logTerm, .slice E n c, .int .i64 (q : Nat), .bool mok] 34 (0, 0)) ∧ Blk W w2.heap.size 86 #[.nilFunc, .func (.func 43) #[] #[], .func (.func 44) #[] #[], .func (.func 45) #[] #[], .func (.func 46) #[] #[]]) := Lib.hid (fun W hW => ⟨(HU0.out.2.2.1.below HB3.out.1).below hW, HU0.out.1.trans ((Chg.of_below HB3.out.1).trans (.of_below hW)), (HU0.out.2.2.2.below HB3.out.1).below hW, ((HU0.out.2.1.below HB3.out.1 HU0.out.2.1.lt).below hW (Nat.lt_of_lt_of_le HU0.out.2.1.lt HB3.out.1.size)).cell 0, (HU0.out.2.1.below HB3.out.1 HU0.out.2.1.lt).below hW (Nat.lt_of_lt_of_le HU0.out.2.1.lt HB3.out.1.size), HB3.out.2.below hW HB3.out.2.lt⟩)
      have HBN : Hid (∀ a, A = some a → (∃ a0, A = some a0 ∧ a.block = a0.block) ∨ w.heap.size ≤ a.block) := Lib.hid (fun a ha => .inl ⟨a, ha, rfl⟩)
      have HMX : Hid (M = ⟨mk, (k : Nat), to, term, (i : Nat), logTerm, ents, (q : Nat), mok⟩) := HM.out
      have HI : Hid (i + ents.length ≤ 4096) := by have := HHE.out.len; dsimp only at this; exact Lib.hid (by omega)
      have HNC : Hid (ents.length ≤ c ∧ (E = none → c = 0)) := by have h := HARG.out.2.2.2; rw [HM.out] at h; exact Lib.hid h
      simp only [Act.put, List.setIfInBounds_toArray, List.set_cons_succ, List.set_cons_zero]
      rcases (show mk = 1 ∨ mk = 2 ∨ mk = 3 ∨ mk = 4 from HHE.out.kind) with h | h | h | h
      · subst h
        have HQ2 : Hid ((S', ms) = S.asked ⟨1, (k : Nat), to, term, (i : Nat), logTerm, ents, (q : Nat), mok⟩) := Lib.hid (by rw [HQ1.out, HMX.out]; rfl)
        refine wp_region_plan (.q 0 (.q 1 (.q 2 (.q 3 (.q 4 (.q 5 (.a1 6 (.q 7 .fin)))))))) 6 (fun W => Below w3.heap.size w3 W) (by kernel_rfl) rfl (by kernel_rfl) (Below.refl _ _).drew ?_
        refine wpPlan_q rfl rfl rfl ?_; intro K hK
        go_big_quiet_op
        first | go_big_quiet_on | (refine ⟨_, fun _ _ => rfl, ?_⟩; go_big_quiet_on)
        refine wpPlan_q rfl rfl rfl ?_; intro K hK
        refine ⟨(.int .u8 1), fun W hW => ?_, ?_⟩
        · have q0 := (HX.out W hW).2.2.2.1
          unfold Oper.quietAt Oper.quietUpon
          simp [go_sem, q0]
        refine hK _ ?_
        clear hK K
        try simp only [Act.put, List.setIfInBounds_toArray, List.set_cons_succ, List.set_cons_zero]
        refine wpPlan_q rfl rfl rfl ?_; intro K hK
        refine ⟨.pointer (some ⟨w2.heap.size, 1, none⟩), fun W hW => ?_, ?_⟩
        · unfold Oper.quietAt Oper.quietUpon
          simp [go_sem]
        refine hK _ ?_
        clear hK K
        try simp only [Act.put, List.setIfInBounds_toArray, List.set_cons_succ, List.set_cons_zero]
        refine wpPlan_q rfl rfl rfl ?_; intro K hK
        refine ⟨(.func (.func 43) #[] #[]), fun W hW => ?_, ?_⟩
        · have q0 := (HX.out W hW).2.2.2.2.2.cell 1
          unfold Oper.quietAt Oper.quietUpon
          simp [go_sem, q0]
        refine hK _ ?_
        clear hK K
        try simp only [Act.put, List.setIfInBounds_toArray, List.set_cons_succ, List.set_cons_zero]
        refine wpPlan_q rfl rfl rfl ?_; intro K hK
        go_big_quiet_op
        first | go_big_quiet_on | (refine ⟨_, fun _ _ => rfl, ?_⟩; go_big_quiet_on)
        refine wpPlan_q rfl rfl rfl ?_; intro K hK
        refine quiet_load_row 34 (.tmp 3) rfl w.heap.size rfl 34 #[.int .u8 (1 : Nat), .int .i64 (k : Nat), .int .i64 to, .int .i64 term, .int .i64 (i : Nat), .int .i64 logTerm, .slice E n c, .int .i64 (q : Nat), .bool mok] (0, 0) _ (fun W hW => (HX.out W hW).2.2.2.2.1) Try.underlying34 rfl (by kernel_rfl) ?_
        refine hK _ ?_
        clear hK K
        try simp only [Act.put, List.setIfInBounds_toArray, List.set_cons_succ, List.set_cons_zero]
        refine wpPlan_act false rfl rfl rfl ?_; intro K hK
        go_simp
        refine Calls.mono (by have h := (asked_any S ⟨1, (k : Nat), to, term, (i : Nat), logTerm, ents, (q : Nat), mok⟩ g A E cs c _ (HX.out _ (Below.refl _ _).drew).1 HUO.out.1.len); dsimp only [mcell] at h; rw [HNN.out]; exact h) ?_
        intro e w9 ho9
        rw [← HQ2.out] at ho9
        have HOUT := Lib.hid (OutS.after (HX.out _ (Below.refl _ _).drew).2.1 HBN.out ho9)
        clear ho9
        obtain ⟨A', c', B, D, d, _, _, _, _, _, rfl, _⟩ := HOUT.out
        generalize ms.length = ol at *
        refine hK _ _ (fun h => by cases h) ?_
        clear hK K
        try simp only [Act.put, List.setIfInBounds_toArray, List.set_cons_succ, List.set_cons_zero]
        refine wpPlan_p rfl rfl rfl ?_; intro K hK
        go_big_quiet_op
        first | go_big_quiet_on | (refine ⟨_, fun _ _ => rfl, ?_⟩; go_big_quiet_on)
        refine wpPlan_fin ?_
        go_wp2_with fail
        go_ret
        exact HOUT.out
      · subst h
        have HQ2 : Hid ((S', ms) = S.voted ⟨2, (k : Nat), to, term, (i : Nat), logTerm, ents, (q : Nat), mok⟩) := Lib.hid (by rw [HQ1.out, HMX.out]; rfl)
        refine wp_region_plan (.q 0 (.q 1 (.q 2 (.q 3 (.q 4 (.q 5 (.a1 6 (.q 7 .fin)))))))) 6 (fun W => Below w3.heap.size w3 W) (by kernel_rfl) rfl (by kernel_rfl) (Below.refl _ _).drew ?_
        refine wpPlan_q rfl rfl rfl ?_; intro K hK
        go_big_quiet_op
        first | go_big_quiet_on | (refine ⟨_, fun _ _ => rfl, ?_⟩; go_big_quiet_on)
        refine wpPlan_q rfl rfl rfl ?_; intro K hK
        refine ⟨(.int .u8 2), fun W hW => ?_, ?_⟩
        · have q0 := (HX.out W hW).2.2.2.1
          unfold Oper.quietAt Oper.quietUpon
          simp [go_sem, q0]
        refine hK _ ?_
        clear hK K
        try simp only [Act.put, List.setIfInBounds_toArray, List.set_cons_succ, List.set_cons_zero]
        refine wpPlan_q rfl rfl rfl ?_; intro K hK
        refine ⟨.pointer (some ⟨w2.heap.size, 2, none⟩), fun W hW => ?_, ?_⟩
        · unfold Oper.quietAt Oper.quietUpon
          simp [go_sem]
        refine hK _ ?_
        clear hK K
        try simp only [Act.put, List.setIfInBounds_toArray, List.set_cons_succ, List.set_cons_zero]
        refine wpPlan_q rfl rfl rfl ?_; intro K hK
        refine ⟨(.func (.func 44) #[] #[]), fun W hW => ?_, ?_⟩
        · have q0 := (HX.out W hW).2.2.2.2.2.cell 2
          unfold Oper.quietAt Oper.quietUpon
          simp [go_sem, q0]
        refine hK _ ?_
        clear hK K
        try simp only [Act.put, List.setIfInBounds_toArray, List.set_cons_succ, List.set_cons_zero]
        refine wpPlan_q rfl rfl rfl ?_; intro K hK
        go_big_quiet_op
        first | go_big_quiet_on | (refine ⟨_, fun _ _ => rfl, ?_⟩; go_big_quiet_on)
        refine wpPlan_q rfl rfl rfl ?_; intro K hK
        refine quiet_load_row 34 (.tmp 3) rfl w.heap.size rfl 34 #[.int .u8 (2 : Nat), .int .i64 (k : Nat), .int .i64 to, .int .i64 term, .int .i64 (i : Nat), .int .i64 logTerm, .slice E n c, .int .i64 (q : Nat), .bool mok] (0, 0) _ (fun W hW => (HX.out W hW).2.2.2.2.1) Try.underlying34 rfl (by kernel_rfl) ?_
        refine hK _ ?_
        clear hK K
        try simp only [Act.put, List.setIfInBounds_toArray, List.set_cons_succ, List.set_cons_zero]
        refine wpPlan_act false rfl rfl rfl ?_; intro K hK
        go_simp
        refine Calls.mono (by have h := (voted_any S ⟨2, (k : Nat), to, term, (i : Nat), logTerm, ents, (q : Nat), mok⟩ g k A E cs c _ (HX.out _ (Below.refl _ _).drew).1 HUO.out.1.len HUO.out.1.n (Nat.le_trans HUO.out.1.com HUO.out.1.len) HUO.out.1.vot rfl HUO.out.2); dsimp only [mcell] at h; rw [HNN.out]; exact h) ?_
        intro e w9 ho9
        rw [← HQ2.out] at ho9
        have HOUT := Lib.hid (OutS.after (HX.out _ (Below.refl _ _).drew).2.1 HBN.out ho9)
        clear ho9
        obtain ⟨A', c', B, D, d, _, _, _, _, _, rfl, _⟩ := HOUT.out
        generalize ms.length = ol at *
        refine hK _ _ (fun h => by cases h) ?_
        clear hK K
        try simp only [Act.put, List.setIfInBounds_toArray, List.set_cons_succ, List.set_cons_zero]
        refine wpPlan_p rfl rfl rfl ?_; intro K hK
        go_big_quiet_op
        first | go_big_quiet_on | (refine ⟨_, fun _ _ => rfl, ?_⟩; go_big_quiet_on)
        refine wpPlan_fin ?_
        go_wp2_with fail
        go_ret
        exact HOUT.out
      · subst h
        have HQ2 : Hid ((S', ms) = S.appended ⟨3, (k : Nat), to, term, (i : Nat), logTerm, ents, (q : Nat), mok⟩) := Lib.hid (by rw [HQ1.out, HMX.out]; rfl)
        refine wp_region_plan (.q 0 (.q 1 (.q 2 (.q 3 (.q 4 (.q 5 (.a1 6 (.q 7 .fin)))))))) 6 (fun W => Below w3.heap.size w3 W) (by kernel_rfl) rfl (by kernel_rfl) (Below.refl _ _).drew ?_
        refine wpPlan_q rfl rfl rfl ?_; intro K hK
        go_big_quiet_op
        first | go_big_quiet_on | (refine ⟨_, fun _ _ => rfl, ?_⟩; go_big_quiet_on)
        refine wpPlan_q rfl rfl rfl ?_; intro K hK
        refine ⟨(.int .u8 3), fun W hW => ?_, ?_⟩
        · have q0 := (HX.out W hW).2.2.2.1
          unfold Oper.quietAt Oper.quietUpon
          simp [go_sem, q0]
        refine hK _ ?_
        clear hK K
        try simp only [Act.put, List.setIfInBounds_toArray, List.set_cons_succ, List.set_cons_zero]
        refine wpPlan_q rfl rfl rfl ?_; intro K hK
        refine ⟨.pointer (some ⟨w2.heap.size, 3, none⟩), fun W hW => ?_, ?_⟩
        · unfold Oper.quietAt Oper.quietUpon
          simp [go_sem]
        refine hK _ ?_
        clear hK K
        try simp only [Act.put, List.setIfInBounds_toArray, List.set_cons_succ, List.set_cons_zero]
        refine wpPlan_q rfl rfl rfl ?_; intro K hK
        refine ⟨(.func (.func 45) #[] #[]), fun W hW => ?_, ?_⟩
        · have q0 := (HX.out W hW).2.2.2.2.2.cell 3
          unfold Oper.quietAt Oper.quietUpon
          simp [go_sem, q0]
        refine hK _ ?_
        clear hK K
        try simp only [Act.put, List.setIfInBounds_toArray, List.set_cons_succ, List.set_cons_zero]
        refine wpPlan_q rfl rfl rfl ?_; intro K hK
        go_big_quiet_op
        first | go_big_quiet_on | (refine ⟨_, fun _ _ => rfl, ?_⟩; go_big_quiet_on)
        refine wpPlan_q rfl rfl rfl ?_; intro K hK
        refine quiet_load_row 34 (.tmp 3) rfl w.heap.size rfl 34 #[.int .u8 (3 : Nat), .int .i64 (k : Nat), .int .i64 to, .int .i64 term, .int .i64 (i : Nat), .int .i64 logTerm, .slice E n c, .int .i64 (q : Nat), .bool mok] (0, 0) _ (fun W hW => (HX.out W hW).2.2.2.2.1) Try.underlying34 rfl (by kernel_rfl) ?_
        refine hK _ ?_
        clear hK K
        try simp only [Act.put, List.setIfInBounds_toArray, List.set_cons_succ, List.set_cons_zero]
        refine wpPlan_act false rfl rfl rfl ?_; intro K hK
        go_simp
        refine Calls.mono (by have h := (appended_any S ⟨3, (k : Nat), to, term, (i : Nat), logTerm, ents, (q : Nat), mok⟩ g i q A E cs c _ (HX.out _ (Below.refl _ _).drew).1 HUO.out.1 (HX.out _ (Below.refl _ _).drew).2.2.1 HEE.out HNC.out.1 HNC.out.2 rfl rfl HI.out); dsimp only [mcell] at h; rw [HNN.out]; exact h) ?_
        intro e w9 ho9
        rw [← HQ2.out] at ho9
        have HOUT := Lib.hid (OutS.after (HX.out _ (Below.refl _ _).drew).2.1 HBN.out ho9)
        clear ho9
        obtain ⟨A', c', B, D, d, _, _, _, _, _, rfl, _⟩ := HOUT.out
        generalize ms.length = ol at *
        refine hK _ _ (fun h => by cases h) ?_
        clear hK K
        try simp only [Act.put, List.setIfInBounds_toArray, List.set_cons_succ, List.set_cons_zero]
        refine wpPlan_p rfl rfl rfl ?_; intro K hK
        go_big_quiet_op
        first | go_big_quiet_on | (refine ⟨_, fun _ _ => rfl, ?_⟩; go_big_quiet_on)
        refine wpPlan_fin ?_
        go_wp2_with fail
        go_ret
        exact HOUT.out
      · subst h
        have HQ2 : Hid ((S', ms) = S.told ⟨4, (k : Nat), to, term, (i : Nat), logTerm, ents, (q : Nat), mok⟩) := Lib.hid (by rw [HQ1.out, HMX.out]; rfl)
        refine wp_region_plan (.q 0 (.q 1 (.q 2 (.q 3 (.q 4 (.q 5 (.a1 6 (.q 7 .fin)))))))) 6 (fun W => Below w3.heap.size w3 W) (by kernel_rfl) rfl (by kernel_rfl) (Below.refl _ _).drew ?_
        refine wpPlan_q rfl rfl rfl ?_; intro K hK
        go_big_quiet_op
        first | go_big_quiet_on | (refine ⟨_, fun _ _ => rfl, ?_⟩; go_big_quiet_on)
        refine wpPlan_q rfl rfl rfl ?_; intro K hK
        refine ⟨(.int .u8 4), fun W hW => ?_, ?_⟩
        · have q0 := (HX.out W hW).2.2.2.1
          unfold Oper.quietAt Oper.quietUpon
          simp [go_sem, q0]
        refine hK _ ?_
        clear hK K
        try simp only [Act.put, List.setIfInBounds_toArray, List.set_cons_succ, List.set_cons_zero]
        refine wpPlan_q rfl rfl rfl ?_; intro K hK
        refine ⟨.pointer (some ⟨w2.heap.size, 4, none⟩), fun W hW => ?_, ?_⟩
        · unfold Oper.quietAt Oper.quietUpon
          simp [go_sem]
        refine hK _ ?_
        clear hK K
        try simp only [Act.put, List.setIfInBounds_toArray, List.set_cons_succ, List.set_cons_zero]
        refine wpPlan_q rfl rfl rfl ?_; intro K hK
        refine ⟨(.func (.func 46) #[] #[]), fun W hW => ?_, ?_⟩
        · have q0 := (HX.out W hW).2.2.2.2.2.cell 4
          unfold Oper.quietAt Oper.quietUpon
          simp [go_sem, q0]
        refine hK _ ?_
        clear hK K
        try simp only [Act.put, List.setIfInBounds_toArray, List.set_cons_succ, List.set_cons_zero]
        refine wpPlan_q rfl rfl rfl ?_; intro K hK
        go_big_quiet_op
        first | go_big_quiet_on | (refine ⟨_, fun _ _ => rfl, ?_⟩; go_big_quiet_on)
        refine wpPlan_q rfl rfl rfl ?_; intro K hK
        refine quiet_load_row 34 (.tmp 3) rfl w.heap.size rfl 34 #[.int .u8 (4 : Nat), .int .i64 (k : Nat), .int .i64 to, .int .i64 term, .int .i64 (i : Nat), .int .i64 logTerm, .slice E n c, .int .i64 (q : Nat), .bool mok] (0, 0) _ (fun W hW => (HX.out W hW).2.2.2.2.1) Try.underlying34 rfl (by kernel_rfl) ?_
        refine hK _ ?_
        clear hK K
        try simp only [Act.put, List.setIfInBounds_toArray, List.set_cons_succ, List.set_cons_zero]
        refine wpPlan_act false rfl rfl rfl ?_; intro K hK
        go_simp
        refine Calls.mono (by have h := (told_any S ⟨4, (k : Nat), to, term, (i : Nat), logTerm, ents, (q : Nat), mok⟩ g k i A E cs c _ (HX.out _ (Below.refl _ _).drew).1 HUO.out.1 rfl HUO.out.2 rfl (by have := HI.out; omega)); dsimp only [mcell] at h; rw [HNN.out]; exact h) ?_
        intro e w9 ho9
        rw [← HQ2.out] at ho9
        have HOUT := Lib.hid (OutS.after (HX.out _ (Below.refl _ _).drew).2.1 HBN.out ho9)
        clear ho9
        obtain ⟨A', c', B, D, d, _, _, _, _, _, rfl, _⟩ := HOUT.out
        generalize ms.length = ol at *
        refine hK _ _ (fun h => by cases h) ?_
        clear hK K
        try simp only [Act.put, List.setIfInBounds_toArray, List.set_cons_succ, List.set_cons_zero]
        refine wpPlan_p rfl rfl rfl ?_; intro K hK
        go_big_quiet_op
        first | go_big_quiet_on | (refine ⟨_, fun _ _ => rfl, ?_⟩; go_big_quiet_on)
        refine wpPlan_fin ?_
        go_wp2_with fail
        go_ret
        exact HOUT.out
end Go.Proofs.Ytjodglepaeomiaa
