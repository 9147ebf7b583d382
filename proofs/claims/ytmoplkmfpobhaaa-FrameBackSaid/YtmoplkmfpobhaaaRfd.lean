/- Contract of the document's reader's Feed. -/
import Derived.Test.YtmoplkmfpobhaaaFed
namespace Go.Proofs.Ytmoplkmfpobhaaa
open Go.RowKit

theorem LL.keptC {w w' : World} {base : Nat} {v : Value} {ls : List (List UInt8)} (h : LL w base v ls) {T : Nat → Prop} (hc : Chg T w w') (hT : ∀ k, T k → k < base) : LL w' base v ls := by
  obtain ⟨us, ho, hl, hu⟩ := h
  exact ⟨us, own_chg ho hc (fun g hg h => by have := (World.ownsRow.lt ho g hg).1; have := hT g h; omega), hl, fun i u l h1 h2 => by
    obtain ⟨A, c, he, ho'⟩ := hu i u l h1 h2
    exact ⟨A, c, he, own_chg ho' hc (fun g hg h => by have := (World.ownsRow.lt ho' g hg).1; have := hT g h; omega)⟩⟩

theorem rfeed_err (bs : Nat) (lv : Value) (tk er : Nat) (v : Value) (w : World) (h : Blk w bs 48 #[lv, .int .i64 (tk : Nat), .int .i64 (er : Nat)]) (he : 0 < er) :
    Calls Try.prog 24 #[.pointer (some ⟨bs, 0, none⟩), v] w fun e w' => e = .returned (.tuple #[.slice none 0 0, .int .i64 (er : Nat)]) ∧ ∃ m, w' = w.drewN m := by
  have c2 : w.cell? ⟨bs, 2, none⟩ = some (.int .i64 (er : Nat)) := h.cell 2
  have hne : ((er : Int) != 0) = true := by rw [bne_iff_ne]; omega
  clear h
  go_enter Try.func24, Try.ntmps24
  go_wp2_with fail
  go_quiet (fail)
  go_wp2_with fail
  go_ret2
  exact ⟨rfl, nq, rfl⟩

def RFeedPost (w : World) (bs : Nat) (tk : Nat) (T : List UInt8) (e : Ending) (w' : World) : Prop :=
  ∃ v A' c', e = .returned (.tuple #[v, .int .i64 (errAt (spl T).2.2 : Nat)]) ∧ Blk w' bs 48 #[.slice A' (T.drop (spl T).2.1).length c', .int .i64 ((tk + (spl T).2.1 : Nat) : Int), .int .i64 (errAt (spl T).2.2 : Nat)] ∧
    Reads w' w'.heap.size 1 A' (T.drop (spl T).2.1).length (bcells (T.drop (spl T).2.1)) ∧ (∀ ad, 0 < (T.drop (spl T).2.1).length → A' = some ad → w.heap.size ≤ ad.block) ∧
    LL w' w.heap.size v (spl T).1 ∧ Chg (fun k => k = bs) w w'

set_option maxHeartbeats 4000000 in
theorem rfeed_ok (bs : Nat) (As : Option Addr) (cs tk : Nat) (left : List UInt8) (A : Option Addr) (n cap : Nat) (l : List UInt8) (w : World) (h : Blk w bs 48 #[.slice As left.length cs, .int .i64 (tk : Nat), .int .i64 0]) (hs : Reads w w.heap.size 1 As left.length (bcells left))
    (hl : l.length = n) (hn : left.length + n ≤ 70000) (htk : tk ≤ 70000) (hr : Reads w w.heap.size 1 A n (bcells l)) :
    Calls Try.prog 24 #[.pointer (some ⟨bs, 0, none⟩), .slice A n cap] w (RFeedPost w bs tk (left ++ l)) := by
  obtain ⟨i0, hi, hz0, hz1, hz2⟩ := info_parts Try.info5
  have c0 : w.cell? ⟨bs, 0, none⟩ = some (.slice As left.length cs) := h.cell 0
  have c2 : w.cell? ⟨bs, 2, none⟩ = some (.int .i64 0) := h.cell 2
  have HH := Lib.hid h
  have HSL := Lib.hid hs
  have HR := Lib.hid hr
  have HL := Lib.hid hl
  have hbr := h.lt
  clear h hs hr hl
  go_enter Try.func24, Try.ntmps24
  go_wp2_with (first
    | (at_builtin; refine wpList_append_any _ rfl (.tmp 19) (.tmp 23) 22 rfl w.heap.size 5 i0 (.int .u8 0) 1 1 Try.underlying22 hi hz0 hz1 hz2 rfl (by decide) (.slice none 0 0) 0 (bcells []) rfl (World.ownsRow_nil _ _ _ _) w.heap.size As left.length cs (bcells left) rfl HSL.out (bcells_one _) (by unfold maxLen; omega) (by omega) (Nat.le_refl _) ?_; intro v2 w2 ho2 hg2 hat2; rw [← bcells_append, List.nil_append, Nat.zero_add] at ho2; obtain ⟨A2, c2', rfl, hc2⟩ := own_form ho2; have HK2 := Lib.hid (And.intro ho2 hg2); have hsz2 := hg2.size; clear ho2 hg2 hat2)
    | (at_builtin; refine wpList_append_any _ rfl (.tmp 25) (.tmp 26) 22 rfl w.heap.size 5 i0 (.int .u8 0) 1 1 Try.underlying22 hi hz0 hz1 hz2 rfl (by decide) (.slice A2 left.length c2') left.length (bcells left) rfl HK2.out.1 w.heap.size A n cap (bcells l) rfl (HR.out.grown HK2.out.2 (Nat.le_refl _) (fun g hg => by cases hg)) (bcells_one _) (by unfold maxLen; omega) (by omega) hsz2 ?_; intro v3 w3 ho3 hg3 hat3; rw [← bcells_append] at ho3; obtain ⟨A3, c3, rfl, hc3⟩ := own_form ho3; have HK3 := Lib.hid (And.intro ho3 hg3); clear ho3 hg3 hat3))
  clear hi hz0 hz1 hz2 c0 c2
  obtain ⟨ho3, hg3⟩ := HK3.out
  obtain ⟨T, hT⟩ : ∃ T, T = left ++ l := ⟨_, rfl⟩
  have HTT : Hid (left ++ l = T) := hT.symm
  have hTl : T.length = left.length + n := by rw [hT, List.length_append, HL.out]
  obtain ⟨m, hm⟩ : ∃ m, m = left.length + n := ⟨_, rfl⟩
  rw [← hT, ← hm] at ho3
  rw [← hm] at hc3 hTl hn ⊢
  have hbel : Below w.heap.size w w3 := (((Below.refl _ w).grown HK2.out.2 (Nat.le_refl _) (fun k h => by cases h))).grown hg3 hsz2 (fun k h => (World.ownsRow.lt HK2.out.1 k h).1)
  have hTR := Reads.of_own ho3
  have hk3 := HH.out.below hbel hbr
  have hsz3 := hbel.size
  refine (refSplit_any (fun A n cap l w a b c d => refRead_any A n cap l w a b c d) A3 m c3 T w3 hTl hn hc3 hTR).mono ?_
  rintro e w4 ⟨v4, rfl, hll, hb4⟩
  have HK4 := Lib.hid (hk3.below hb4 hk3.lt)
  have hs4 := hb4.size
  have HLL := Lib.hid (hll.mono hsz3)
  have HC4 := Lib.hid (show Chg (fun k => k = bs) w w4 from (Chg.of_below hbel).trans (.of_below hb4))
  have HTR := Lib.hid ((hTR.below hb4).more hb4.size)
  have hus := spl_used T
  have her := spl_err8 T (by omega)
  have HTL := Lib.hid hTl
  rw [hTl] at hus
  have ho4 := own_below ho3 hb4
  have hbr4 : bs < w4.heap.size := by omega
  have HTK : Hid (T.take m = T) := List.take_of_length_le (by rw [hTl]; exact Nat.le_refl _)
  clear hll hb4 hbel hTR hk3 ho3 hg3 hTl HK3 HK2 hT hm
  generalize hg1 : (spl T).1 = bos at *
  generalize hg2 : (spl T).2.1 = us at *
  generalize hg3 : (spl T).2.2 = er at *
  have HSP : Hid (spl T = (bos, us, er)) := by show spl T = _; rw [← hg1, ← hg2, ← hg3]
  clear hg1 hg2 hg3
  have hcase : (A3 = none ∧ m = 0 ∧ c3 = 0 ∧ us = 0) ∨ ∃ g, A3 = some ⟨g, 0, none⟩ ∧ w.heap.size ≤ g := by
    rcases ho4.2 with ⟨hv, h0⟩ | ⟨g, cap', cur, hv, hg, _, hc, _⟩
    · injection hv with h1 h2 h3
      exact .inl ⟨h1, h2, h3, by omega⟩
    · injection hv with h1 h2 h3
      exact .inr ⟨g, h1, hg⟩
  clear ho4
  rcases hcase with ⟨rfl, rfl, rfl, rfl⟩ | ⟨g, rfl, hgb⟩
  · have HPL : Hid (∀ ad : Addr, 0 < 0 → (none : Option Addr) = some ad → ¬ ad.block = bs) := fun ad h => absurd h (by omega)
    have HPG : Hid (∀ ad : Addr, 0 < 0 → (none : Option Addr) = some ad → w.heap.size ≤ ad.block) := fun ad h => absurd h (by omega)
    have d0 : w4.cell? ⟨bs, 0, none⟩ = some (.slice As left.length cs) := HK4.out.cell 0
    have d1 : w4.cell? ⟨bs, 1, none⟩ = some (.int .i64 (tk : Nat)) := HK4.out.cell 1
    have d2 : w4.cell? ⟨bs, 2, none⟩ = some (.int .i64 0) := HK4.out.cell 2
    have f0 := HK4.out.frozen 0
    have f1 := HK4.out.frozen 1
    have f2 := HK4.out.frozen 2
    by_cases he : er = 4
    · subst he
      go_wp2_with fail
      go_quiet (fail)
      go_wp2_with fail
      go_ret2
      have hch := (((Chg.refl (fun k => k = bs) w4).setCell (p := ⟨bs, 0, none⟩) rfl (.slice none 0 0)).setCell (p := ⟨bs, 1, none⟩) rfl (.int .i64 ((tk : Int) + (0 : Nat)))).drewN nq
      show RFeedPost _ _ _ (left ++ l) _ _
      rw [HTT.out]
      unfold RFeedPost
      rw [HSP.out]
      dsimp only
      refine ⟨v4, none, 0, rfl, ?_, ?_, ?_, ?_, ?_⟩
      · rw [List.length_drop, HTL.out]
        exact (((HK4.out.set_ 0 _).set_ 1 _)).drewN _
      · exact ((by rw [List.length_drop, HTL.out]; exact HTR.out : Reads w4 w4.heap.size 1 none (T.drop 0).length (bcells (T.drop 0))).chg hch (Nat.le_refl _) (fun ad h0 e => HPL.out ad (by rw [List.length_drop, HTL.out] at h0; omega) e)).more hch.size
      · intro ad h0 e
        exact HPG.out ad (by rw [List.length_drop, HTL.out] at h0; omega) e
      · exact HLL.out.keptC hch (fun k h => by have h2 : k = bs := h; omega)
      · exact (HC4.out.mono (fun k h => h)).trans hch
    · have hne : ((er : Int) != 4) = true := by rw [bne_iff_ne]; omega
      have HEA := Lib.hid (errAt_ne he)
      clear he
      go_wp2_with fail
      go_quiet (fail)
      go_wp2_with fail
      go_ret2
      have hch := ((((Chg.refl (fun k => k = bs) w4).setCell (p := ⟨bs, 0, none⟩) rfl (.slice none 0 0)).setCell (p := ⟨bs, 1, none⟩) rfl (.int .i64 ((tk : Int) + (0 : Nat)))).setCell (p := ⟨bs, 2, none⟩) rfl (.int .i64 (er : Nat))).drewN nq
      show RFeedPost _ _ _ (left ++ l) _ _
      rw [HTT.out]
      unfold RFeedPost
      rw [HSP.out]
      dsimp only
      refine ⟨v4, none, 0, by rw [HEA.out]; rfl, ?_, ?_, ?_, ?_, ?_⟩
      · rw [List.length_drop, HTL.out]
        rw [HEA.out]
        exact ((((HK4.out.set_ 0 _).set_ 1 _).set_ 2 _)).drewN _
      · exact ((by rw [List.length_drop, HTL.out]; exact HTR.out : Reads w4 w4.heap.size 1 none (T.drop 0).length (bcells (T.drop 0))).chg hch (Nat.le_refl _) (fun ad h0 e => HPL.out ad (by rw [List.length_drop, HTL.out] at h0; omega) e)).more hch.size
      · intro ad h0 e
        exact HPG.out ad (by rw [List.length_drop, HTL.out] at h0; omega) e
      · exact HLL.out.keptC hch (fun k h => by have h2 : k = bs := h; omega)
      · exact (HC4.out.mono (fun k h => h)).trans hch
  · by_cases hcu : c3 = us
    · have hum : us = m := by omega
      subst hum
      subst hcu
      have HRD : Hid (Reads w4 w4.heap.size 1 (some ⟨g, 0, none⟩) 0 (bcells (T.drop c3))) := ⟨by rw [bcells_length, List.length_drop, HTL.out]; omega, fun h => absurd h (by omega)⟩
      have HPL : Hid (∀ ad : Addr, 0 < 0 → (some ⟨g, 0, none⟩ : Option Addr) = some ad → ¬ ad.block = bs) := fun ad h => absurd h (by omega)
      have HPG : Hid (∀ ad : Addr, 0 < 0 → (some ⟨g, 0, none⟩ : Option Addr) = some ad → w.heap.size ≤ ad.block) := fun ad h => absurd h (by omega)
      have d0 : w4.cell? ⟨bs, 0, none⟩ = some (.slice As left.length cs) := HK4.out.cell 0
      have d1 : w4.cell? ⟨bs, 1, none⟩ = some (.int .i64 (tk : Nat)) := HK4.out.cell 1
      have d2 : w4.cell? ⟨bs, 2, none⟩ = some (.int .i64 0) := HK4.out.cell 2
      have f0 := HK4.out.frozen 0
      have f1 := HK4.out.frozen 1
      have f2 := HK4.out.frozen 2
      by_cases he : er = 4
      · subst he
        go_wp2_with fail
        go_quiet (fail)
        go_wp2_with fail
        go_ret2
        have hch := (((Chg.refl (fun k => k = bs) w4).setCell (p := ⟨bs, 0, none⟩) rfl (.slice (some ⟨g, 0, none⟩) 0 0)).setCell (p := ⟨bs, 1, none⟩) rfl (.int .i64 ((tk : Int) + (c3 : Nat)))).drewN nq
        show RFeedPost _ _ _ (left ++ l) _ _
        rw [HTT.out]
        unfold RFeedPost
        rw [HSP.out]
        dsimp only
        refine ⟨v4, (some ⟨g, 0, none⟩), 0, rfl, ?_, ?_, ?_, ?_, ?_⟩
        · rw [List.length_drop, HTL.out, Nat.sub_self]
          exact (((HK4.out.set_ 0 _).set_ 1 _)).drewN _
        · exact ((by rw [List.length_drop, HTL.out, Nat.sub_self]; exact HRD.out : Reads w4 w4.heap.size 1 (some ⟨g, 0, none⟩) (T.drop c3).length (bcells (T.drop c3))).chg hch (Nat.le_refl _) (fun ad h0 e => HPL.out ad (by rw [List.length_drop, HTL.out, Nat.sub_self] at h0; omega) e)).more hch.size
        · intro ad h0 e
          exact HPG.out ad (by rw [List.length_drop, HTL.out, Nat.sub_self] at h0; omega) e
        · exact HLL.out.keptC hch (fun k h => by have h2 : k = bs := h; omega)
        · exact (HC4.out.mono (fun k h => h)).trans hch
      · have hne : ((er : Int) != 4) = true := by rw [bne_iff_ne]; omega
        have HEA := Lib.hid (errAt_ne he)
        clear he
        go_wp2_with fail
        go_quiet (fail)
        go_wp2_with fail
        go_ret2
        have hch := ((((Chg.refl (fun k => k = bs) w4).setCell (p := ⟨bs, 0, none⟩) rfl (.slice (some ⟨g, 0, none⟩) 0 0)).setCell (p := ⟨bs, 1, none⟩) rfl (.int .i64 ((tk : Int) + (c3 : Nat)))).setCell (p := ⟨bs, 2, none⟩) rfl (.int .i64 (er : Nat))).drewN nq
        show RFeedPost _ _ _ (left ++ l) _ _
        rw [HTT.out]
        unfold RFeedPost
        rw [HSP.out]
        dsimp only
        refine ⟨v4, (some ⟨g, 0, none⟩), 0, by rw [HEA.out]; rfl, ?_, ?_, ?_, ?_, ?_⟩
        · rw [List.length_drop, HTL.out, Nat.sub_self]
          rw [HEA.out]
          exact ((((HK4.out.set_ 0 _).set_ 1 _).set_ 2 _)).drewN _
        · exact ((by rw [List.length_drop, HTL.out, Nat.sub_self]; exact HRD.out : Reads w4 w4.heap.size 1 (some ⟨g, 0, none⟩) (T.drop c3).length (bcells (T.drop c3))).chg hch (Nat.le_refl _) (fun ad h0 e => HPL.out ad (by rw [List.length_drop, HTL.out, Nat.sub_self] at h0; omega) e)).more hch.size
        · intro ad h0 e
          exact HPG.out ad (by rw [List.length_drop, HTL.out, Nat.sub_self] at h0; omega) e
        · exact HLL.out.keptC hch (fun k h => by have h2 : k = bs := h; omega)
        · exact (HC4.out.mono (fun k h => h)).trans hch
    · have HRD : Hid (Reads w4 w4.heap.size 1 (some ⟨g, us, none⟩) (m - us) (bcells (T.drop us))) := by
        have h := HTR.out.sub us m (by omega) (Nat.le_refl _)
        rwa [Nat.zero_add, HTK.out] at h
      have HPL : Hid (∀ ad : Addr, 0 < m - us → (some ⟨g, us, none⟩ : Option Addr) = some ad → ¬ ad.block = bs) := fun ad _ h => by cases h; show ¬ g = bs; omega
      have HPG : Hid (∀ ad : Addr, 0 < m - us → (some ⟨g, us, none⟩ : Option Addr) = some ad → w.heap.size ≤ ad.block) := fun ad _ h => by cases h; exact hgb
      have d0 : w4.cell? ⟨bs, 0, none⟩ = some (.slice As left.length cs) := HK4.out.cell 0
      have d1 : w4.cell? ⟨bs, 1, none⟩ = some (.int .i64 (tk : Nat)) := HK4.out.cell 1
      have d2 : w4.cell? ⟨bs, 2, none⟩ = some (.int .i64 0) := HK4.out.cell 2
      have f0 := HK4.out.frozen 0
      have f1 := HK4.out.frozen 1
      have f2 := HK4.out.frozen 2
      by_cases he : er = 4
      · subst he
        go_wp2_with fail
        go_quiet (fail)
        go_wp2_with fail
        go_ret2
        have hch := (((Chg.refl (fun k => k = bs) w4).setCell (p := ⟨bs, 0, none⟩) rfl (.slice (some ⟨g, us, none⟩) (m - us) (c3 - us))).setCell (p := ⟨bs, 1, none⟩) rfl (.int .i64 ((tk : Int) + (us : Nat)))).drewN nq
        show RFeedPost _ _ _ (left ++ l) _ _
        rw [HTT.out]
        unfold RFeedPost
        rw [HSP.out]
        dsimp only
        refine ⟨v4, (some ⟨g, us, none⟩), (c3 - us), rfl, ?_, ?_, ?_, ?_, ?_⟩
        · rw [List.length_drop, HTL.out]
          exact (((HK4.out.set_ 0 _).set_ 1 _)).drewN _
        · exact ((by rw [List.length_drop, HTL.out]; exact HRD.out : Reads w4 w4.heap.size 1 (some ⟨g, us, none⟩) (T.drop us).length (bcells (T.drop us))).chg hch (Nat.le_refl _) (fun ad h0 e => HPL.out ad (by rw [List.length_drop, HTL.out] at h0; omega) e)).more hch.size
        · intro ad h0 e
          exact HPG.out ad (by rw [List.length_drop, HTL.out] at h0; omega) e
        · exact HLL.out.keptC hch (fun k h => by have h2 : k = bs := h; omega)
        · exact (HC4.out.mono (fun k h => h)).trans hch
      · have hne : ((er : Int) != 4) = true := by rw [bne_iff_ne]; omega
        have HEA := Lib.hid (errAt_ne he)
        clear he
        go_wp2_with fail
        go_quiet (fail)
        go_wp2_with fail
        go_ret2
        have hch := ((((Chg.refl (fun k => k = bs) w4).setCell (p := ⟨bs, 0, none⟩) rfl (.slice (some ⟨g, us, none⟩) (m - us) (c3 - us))).setCell (p := ⟨bs, 1, none⟩) rfl (.int .i64 ((tk : Int) + (us : Nat)))).setCell (p := ⟨bs, 2, none⟩) rfl (.int .i64 (er : Nat))).drewN nq
        show RFeedPost _ _ _ (left ++ l) _ _
        rw [HTT.out]
        unfold RFeedPost
        rw [HSP.out]
        dsimp only
        refine ⟨v4, (some ⟨g, us, none⟩), (c3 - us), by rw [HEA.out]; rfl, ?_, ?_, ?_, ?_, ?_⟩
        · rw [List.length_drop, HTL.out]
          rw [HEA.out]
          exact ((((HK4.out.set_ 0 _).set_ 1 _).set_ 2 _)).drewN _
        · exact ((by rw [List.length_drop, HTL.out]; exact HRD.out : Reads w4 w4.heap.size 1 (some ⟨g, us, none⟩) (T.drop us).length (bcells (T.drop us))).chg hch (Nat.le_refl _) (fun ad h0 e => HPL.out ad (by rw [List.length_drop, HTL.out] at h0; omega) e)).more hch.size
        · intro ad h0 e
          exact HPG.out ad (by rw [List.length_drop, HTL.out] at h0; omega) e
        · exact HLL.out.keptC hch (fun k h => by have h2 : k = bs := h; omega)
        · exact (HC4.out.mono (fun k h => h)).trans hch
end Go.Proofs.Ytmoplkmfpobhaaa
