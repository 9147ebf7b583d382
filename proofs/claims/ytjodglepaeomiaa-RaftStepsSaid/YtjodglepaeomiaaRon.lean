/- Contract of the law's one; the walk of RaftSteps. -/
import Derived.Test.YtjodglepaeomiaaRst
namespace Go.Proofs.Ytjodglepaeomiaa
open Go.RowKit

/-! Lists of messages are short. -/
structure Small (ms : List Mg) : Prop where
  len : ms.length ≤ 7
  ents : ∀ m ∈ ms, m.ents.length ≤ 4096
theorem Small.nil : Small [] := ⟨by simp, fun m h => by cases h⟩
theorem Small.one {m : Mg} (h : m.ents.length ≤ 4096) : Small [m] := ⟨by simp, fun x hx => by rw [List.mem_singleton] at hx; rw [hx]; exact h⟩
theorem send_small {S : Sv} (h : S.log.length ≤ 4096) (k : Nat) : (S.send k).ents.length ≤ 4096 := by
  show (List.drop _ (List.take _ S.log)).length ≤ 4096
  rw [List.length_drop, List.length_take]
  omega
theorem ks_small (S : Sv) : S.ks.length ≤ S.n := by
  unfold Sv.ks
  exact Nat.le_trans (List.length_filter_le _ _) (by rw [List.length_range]; exact Nat.le_refl _)
theorem outs_small {S : Sv} (h : S.log.length ≤ 4096) (hn : S.n ≤ 7) : Small S.outs := by
  refine ⟨by unfold Sv.outs; rw [List.length_map]; exact Nat.le_trans (ks_small S) hn, fun m hm => ?_⟩
  unfold Sv.outs at hm
  obtain ⟨k, _, rfl⟩ := List.mem_map.1 hm
  exact send_small h k
theorem asks_small {S : Sv} (hn : S.n ≤ 7) : Small S.asks := by
  refine ⟨by unfold Sv.asks; rw [List.length_map]; exact Nat.le_trans (ks_small S) hn, fun m hm => ?_⟩
  unfold Sv.asks at hm
  obtain ⟨k, _, rfl⟩ := List.mem_map.1 hm
  exact Nat.zero_le _
theorem tick_small {S : Sv} (h : S.Good) : Small S.tick.2 := by
  have hg := h.tick
  unfold Sv.tick at hg ⊢
  split
  · exact outs_small h.len h.n
  · split
    · exact .nil
    · split
      · rename_i h1 h2 h3
        rw [if_neg h1, if_neg h2, if_pos h3] at hg
        exact outs_small hg.len hg.n
      · exact asks_small h.n
theorem handle_small {S : Sv} {m : Mg} (h : S.Good) : Small (S.handle m).2 := by
  have hg := h.handle (m := m)
  unfold Sv.handle at hg ⊢
  split
  · rename_i hh
    rw [if_pos hh] at hg
    have hu := h.up (heard hh)
    generalize S.up m = T at *
    unfold Sv.does at hg ⊢
    split
    · unfold Sv.asked; split <;> exact .one (Nat.zero_le _)
    · rename_i k1
      rw [if_neg k1] at hg
      split
      · rename_i k2
        rw [if_pos k2] at hg
        unfold Sv.voted at hg ⊢
        split
        · exact .nil
        · rename_i k3
          rw [if_neg k3] at hg
          split
          · exact .nil
          · rename_i k4
            rw [if_neg k4] at hg
            exact outs_small hg.len hg.n
      · rename_i k2
        rw [if_neg k2] at hg
        split
        · unfold Sv.appended
          split
          · exact .one (Nat.zero_le _)
          · split
            · exact .nil
            · split
              · exact .one (Nat.zero_le _)
              · split
                · split
                  · exact .nil
                  · exact .one (Nat.zero_le _)
                · exact .one (Nat.zero_le _)
        · unfold Sv.told
          split
          · exact .nil
          · split
            · exact .one (send_small (S := Sv.back _ _ _) hu.len _)
            · split
              · exact .nil
              · exact .one (send_small (S := (T.has m.frm.toNat m.index.toNat).agree) hu.len _)
  · exact .nil

/-! Both servers in one memory. -/
structure Two (w : World) (B g : Nat) (A : Option Addr) (c : Nat) (S : Sv) (gd : Nat) (Ad : Option Addr) (cd : Nat) (V : List Bool) (P : List (Nat × Nat)) : Prop where
  p : SvM w g S A c
  q : RvM w gd S Ad cd V P
  rel : Rel S V P
  full : S.Full
  dis : ∀ b, SvT g A b → ¬ SvT gd Ad b
  lo : ∀ b, SvT g A b → B ≤ b
  lo' : ∀ b, SvT gd Ad b → B ≤ b
theorem SvM.ltS {w : World} {g c : Nat} {S : Sv} {A : Option Addr} (h : SvM w g S A c) {b : Nat} (hb : SvT g A b) : b < w.heap.size := by
  rcases hb with rfl | ⟨a, ha, rfl⟩
  · exact h.lt
  · exact h.alt a ha
/-- Behind the program's step. -/
structure Mid (w wx : World) (u g : Nat) (A : Option Addr) (gd : Nat) (Ad : Option Addr) (cd : Nat) (V : List Bool) (P : List (Nat × Nat)) (S S' : Sv) (A' : Option Addr) (c' : Nat) (Z : Nat → Prop) (D : Option Addr) (d : Nat) (ms : List Mg) : Prop where
  p : SvM wx g S' A' c'
  q : RvM wx gd S Ad cd V P
  m : MsZ wx Z D ms.length d ms
  z : ∀ b, Z b → w.heap.size ≤ b ∧ b < u ∧ ¬ SvT g A' b
  t : ∀ b, SvT g A' b → SvT g A b ∨ (w.heap.size ≤ b ∧ b < u)
  w9 : w.heap.size ≤ u
  hu : u ≤ wx.heap.size
def OnePost (B g gd : Nat) (S' : Sv) (w : World) (e : Ending) (w' : World) : Prop :=
  e = .returned (.bool true) ∧ (∃ A' c' Ad' cd' V' P', Two w' B g A' c' S' gd Ad' cd' V' P') ∧ Chg (fun b => B ≤ b) w w'
section
variable {w w2 w3 : World} {B u g c gd cd : Nat} {A Ad : Option Addr} {S S' : Sv} {V : List Bool} {P : List (Nat × Nat)} {ms : List Mg} {e : Ending}
theorem Two.chg {T : Nat → Prop} (h : Two w B g A c S gd Ad cd V P) (hc : Chg T w w2) (h1 : ∀ b, SvT g A b → ¬ T b) (h2 : ∀ b, SvT gd Ad b → ¬ T b) : Two w2 B g A c S gd Ad cd V P :=
  ⟨h.p.chg hc h1, h.q.chg hc h2, h.rel, h.full, h.dis, h.lo, h.lo'⟩
theorem Two.below (h : Two w B g A c S gd Ad cd V P) (hb : Below w.heap.size w w2) : Two w2 B g A c S gd Ad cd V P := h.chg (T := fun _ => False) (.of_below hb) (fun _ _ h => h) (fun _ _ h => h)
theorem Two.out (h : Two w B g A c S gd Ad cd V P) (o : OutS w g A S' ms e w2) : Chg (SvT g A) w w2 ∧ ∃ A' c' Z D d, e = .returned (.slice D ms.length d) ∧ Mid w w2 w2.heap.size g A gd Ad cd V P S S' A' c' Z D d ms := by
  obtain ⟨A', c', B1, D, d, hm, hc, ht, hB1, hlt, rfl, hms⟩ := o
  refine ⟨hc, A', c', fun b => B1 ≤ b ∧ b < w2.heap.size, D, d, rfl, hm, h.q.chg hc (fun b hb hb2 => h.dis b hb2 hb), hms.toZ (fun b h1 h2 => ⟨h1, h2⟩), fun b hb => ⟨by omega, hb.2, fun hs => ?_⟩, fun b hb => ?_, hc.size, Nat.le_refl _⟩
  · rcases hs with rfl | ⟨a, ha, rfl⟩
    · have := h.p.lt; omega
    · have := hlt a ha; omega
  · rcases SvT.sub (a0 := w.heap.size) ht hb with h1 | h1
    · exact .inl h1
    · exact .inr ⟨h1, hm.ltS hb⟩
theorem Mid.chg {wx wy : World} {A' : Option Addr} {c' d : Nat} {Z N : Nat → Prop} {D : Option Addr} (k : Mid w wx u g A gd Ad cd V P S S' A' c' Z D d ms) (hc : Chg N wx wy) (hN : ∀ b, N b → b < w.heap.size ∧ ¬ SvT g A b ∧ ¬ SvT gd Ad b) : Mid w wy u g A gd Ad cd V P S S' A' c' Z D d ms :=
  ⟨k.p.chg hc (fun b hb hn => by rcases k.t b hb with h | h; exact (hN b hn).2.1 h; have := (hN b hn).1; omega), k.q.chg hc (fun b hb hn => (hN b hn).2.2 hb), k.m.chg hc (fun b hb hn => by have := (hN b hn).1; have := (k.z b hb).1; omega), k.z, k.t, k.w9, Nat.le_trans k.hu hc.size⟩
theorem Mid.fin {wx : World} {A' : Option Addr} {c' d : Nat} {Z : Nat → Prop} {D : Option Addr} (h : Two w B g A c S gd Ad cd V P) (hB : B ≤ w.heap.size) (hf : S'.Full) (k : Mid w wx u g A gd Ad cd V P S S' A' c' Z D d ms) (o : OutR wx gd Ad S' ms e w3) :
    Chg (SvT gd Ad) wx w3 ∧ MsZ w3 Z D ms.length d ms ∧ ∃ B2 D2 d2, e = .returned (.slice D2 ms.length d2) ∧ MsR w3 B2 D2 ms.length d2 ms ∧ ∀ w5, Chg Z w3 w5 → ∃ A' c' Ad' cd' V' P', Two w5 B g A' c' S' gd Ad' cd' V' P' := by
  obtain ⟨A2, c2, V2, P2, B2, D2, d2, hq, hr, hc, ht, hB2, hlt, rfl, hms⟩ := o
  have hlo : ∀ b, SvT gd Ad b → b < w.heap.size := fun b hb => h.q.ltT hb
  have hu := k.hu
  have hd1 : ∀ b, SvT g A' b → ¬ SvT gd Ad b := fun b hb hb2 => by
    rcases k.t b hb with h1 | h1
    · exact h.dis b h1 hb2
    · have := hlo b hb2; omega
  refine ⟨hc, k.m.chg hc (fun b hb hb2 => by have := (k.z b hb).1; have := hlo b hb2; omega), B2, D2, d2, rfl, hms, fun w5 h5 => ⟨A', c', A2, c2, V2, P2, ?_, ?_, hr, hf, fun b h1 h2 => ?_, fun b hb => ?_, fun b hb => ?_⟩⟩
  · exact (k.p.chg hc hd1).chg h5 (fun b hb hz => (k.z b hz).2.2 hb)
  · refine hq.chg h5 (fun b hb hz => ?_)
    rcases SvT.sub (a0 := wx.heap.size) ht hb with h1 | h1
    · have := hlo b h1; have := (k.z b hz).1; omega
    · have := (k.z b hz).2.1; omega
  · rcases SvT.sub (a0 := wx.heap.size) ht h2 with h3 | h3
    · exact hd1 b h1 h3
    · rcases k.t b h1 with h4 | h4
      · have := h.p.ltS h4; have := k.p.ltS h1; omega
      · omega
  · rcases k.t b hb with h1 | h1
    · exact h.lo b h1
    · omega
  · rcases SvT.sub (a0 := wx.heap.size) ht hb with h1 | h1
    · exact h.lo' b h1
    · have := k.w9; omega
end
theorem setcell_own {w1 w4 : World} {b n c : Nat} {A : Option Addr} {xs : List Value} {cs : Array Value} (ho : w4.ownsRow b 39 2 (.slice A n c) n xs) (hb : Blk w4 b 34 cs) (hw : Below b w1 w4) (ds : Array Value) (hd : cs.setIfInBounds 6 (.slice A n c) = ds) :
    Hid (Blk (w4.setCell ⟨b, 6, none⟩ (.slice A n c)) b 34 ds ∧ Below b w1 (w4.setCell ⟨b, 6, none⟩ (.slice A n c)) ∧ (w4.setCell ⟨b, 6, none⟩ (.slice A n c)).ownsRow b 39 2 (.slice A n c) n xs) := by
  have hc : Chg (fun g => g = b) w4 (w4.setCell ⟨b, 6, none⟩ (.slice A n c)) := Chg.setCell (T := fun g => g = b) (Chg.refl _ _) (p := ⟨b, 6, none⟩) rfl _
  have h6 := hb.set_ 6 (.slice A n c)
  rw [hd] at h6
  exact Lib.hid ⟨h6, Chg.below hw hc (Nat.le_of_lt hb.lt) (fun g hg => by omega), own_chg ho hc (fun g hg he => own_blk_ne ho hb (by decide) (hg.trans (congrArg some he)))⟩

def stepA (S : Sv) (x : Ac) : Sv := if x.do_ = 0 then S.tick.1 else if x.do_ = 1 then (S.handle x.m).1 else if x.do_ = 2 then (S.propose x.data).1 else S
set_option maxRecDepth 100000 in
set_option maxHeartbeats 16000000 in
theorem one_any (S : Sv) (x : Ac) (g gd B : Nat) (A Ad : Option Addr) (c cd : Nat) (V : List Bool) (P : List (Nat × Nat)) (w : World) (h : Two w B g A c S gd Ad cd V P) (hB : B ≤ w.heap.size)
    (hm : MgOk x.m) (hrd : RdE w x.E x.m.ents) (hE : ∀ a, x.E = some a → x.m.ents ≠ [] → a.block < B) (hnc : x.m.ents.length ≤ x.c) (hE0 : x.E = none → x.c = 0) (h60 : x.m.ents.length ≤ 60) :
    Calls Try.prog 29 #[.pointer (some ⟨g, 0, none⟩), .pointer (some ⟨gd, 0, none⟩), .agg (acell x).toArray] w (OnePost B g gd (stepA S x) w) := by
  have HST := Lib.hid (show stepA S x = if x.do_ = 0 then S.tick.1 else if x.do_ = 1 then (S.handle x.m).1 else if x.do_ = 2 then (S.propose x.data).1 else S from rfl)
  obtain ⟨S', hS'⟩ : ∃ z, z = stepA S x := ⟨_, rfl⟩
  rw [← hS'] at HST ⊢
  clear hS'
  have HA := Lib.hid (And.intro hm (And.intro hrd (And.intro hE (And.intro h60 (And.intro hnc hE0)))))
  have HTW := Lib.hid (And.intro h hB)
  obtain ⟨dd, m, E, ec, data⟩ := x
  dsimp only at HST HA hE hrd hm h60 hnc hE0
  obtain ⟨M, hM⟩ : ∃ z, z = m := ⟨_, rfl⟩
  have HM := Lib.hid hM
  rw [← hM] at HST
  clear hM
  obtain ⟨mk, frm, dst, term, index, logTerm, ents, commit, mok⟩ := m
  dsimp only [acell, mcell, List.cons_append, List.nil_append]
  rw [← HM.out] at HA
  obtain ⟨n, hn⟩ : ∃ z, z = ents.length := ⟨_, rfl⟩
  have HN := Lib.hid hn
  rw [← hn] at h60 ⊢
  clear hn
  have hgl := h.p.lt
  have hdl := h.q.lt
  have hbg : ¬ w.heap.size = g := by omega
  have hbd : ¬ w.heap.size = gd := by omega
  have HBX : Hid (Below w.heap.size w (w.alloc (.cells #[.int .u8 (dd : Nat), .int .u8 (mk : Nat), .int .i64 frm, .int .i64 dst, .int .i64 term, .int .i64 index, .int .i64 logTerm, .slice E n ec, .int .i64 commit, .bool mok, .string data] 67)) ∧ Blk (w.alloc (.cells #[.int .u8 (dd : Nat), .int .u8 (mk : Nat), .int .i64 frm, .int .i64 dst, .int .i64 term, .int .i64 index, .int .i64 logTerm, .slice E n ec, .int .i64 commit, .bool mok, .string data] 67)) w.heap.size 67 #[.int .u8 (dd : Nat), .int .u8 (mk : Nat), .int .i64 frm, .int .i64 dst, .int .i64 term, .int .i64 index, .int .i64 logTerm, .slice E n ec, .int .i64 commit, .bool mok, .string data]) := ⟨(Below.refl _ w).alloc (Nat.le_refl _) _, Blk.new _ _ _⟩
  have HT1 := Lib.hid (h.below HBX.out.1)
  have hsz : (w.alloc (.cells #[.int .u8 (dd : Nat), .int .u8 (mk : Nat), .int .i64 frm, .int .i64 dst, .int .i64 term, .int .i64 index, .int .i64 logTerm, .slice E n ec, .int .i64 commit, .bool mok, .string data] 67)).heap.size = w.heap.size + 1 := by simp
  clear h hm hrd hE hgl hdl hB hnc hE0
  go_enter Try.func29, Try.ntmps29
  go_upto_region 1 with fail
  generalize w.alloc (.cells #[.int .u8 (dd : Nat), .int .u8 (mk : Nat), .int .i64 frm, .int .i64 dst, .int .i64 term, .int .i64 index, .int .i64 logTerm, .slice E n ec, .int .i64 commit, .bool mok, .string data] 67) = w1 at *
  have HSZ := Lib.hid hsz
  clear hsz
  have x0 : w1.cell? ⟨w.heap.size, 0, none⟩ = some (.int .u8 (dd : Nat)) := HBX.out.2.cell 0
  by_cases k0 : dd = 0
  · have m0 : ((dd : Int) == 0) = true := by simp [k0]
    have HQ1 : Hid (S' = S.tick.1) := Lib.hid (by rw [HST.out, if_pos k0])
    clear HST k0
    go_wp2_with fail
    refine (tick_any S g A c w1 HT1.out.p HT1.out.full.toOk).mono ?_
    intro e w2 ho
    rw [← HQ1.out] at ho
    obtain ⟨hc2, A', c', Z, D, d, rfl, hk⟩ := HT1.out.out ho
    have HK := Lib.hid (And.intro hc2 hk)
    have HFU : Hid (S'.Full) := by rw [HQ1.out]; exact Lib.hid HT1.out.full.tick
    have HSM := Lib.hid (tick_small HT1.out.full.toGood)
    have HTR := Lib.hid (tickR_any S gd Ad cd V P w2 hk.q HT1.out.rel HT1.out.full.toGood)
    rw [← HQ1.out] at HTR
    clear ho hc2 hk x0
    obtain ⟨ms, hms⟩ : ∃ z, z = S.tick.2 := ⟨_, rfl⟩
    rw [← hms] at HK HSM HTR ⊢
    clear hms
    obtain ⟨q, hq⟩ : ∃ z, z = ms.length := ⟨_, rfl⟩
    have HQL := Lib.hid hq
    rw [← hq]
    clear hq
    go_wp2_with fail
    refine HTR.out.mono ?_
    intro e w3 ho
    obtain ⟨hc3, hz3, B2, D2, d2, rfl, hm3, hfin⟩ := Mid.fin HT1.out (Nat.le_trans HTW.out.2 HBX.out.1.size) HFU.out HK.out.2 ho
    have H3 : Hid (Chg (SvT gd Ad) w2 w3 ∧ MsZ w3 Z D q d ms ∧ MsR w3 B2 D2 q d2 ms ∧ ∀ wz, Chg Z w3 wz → ∃ A' c' Ad' cd' V' P', Two wz B g A' c' S' gd Ad' cd' V' P') := Lib.hid (by rw [HQL.out]; exact ⟨hc3, hz3, hm3, hfin⟩)
    clear ho hc3 hz3 hm3 hfin HTR
    have HSA : Hid (Calls Try.prog 58 #[.slice D q d, .slice D2 q d2] w3 fun e w' => e = .returned (.bool true) ∧ Below w3.heap.size w3 w') := by
      have h := H3.out
      rw [HQL.out] at h ⊢
      exact Lib.hid (sameMsgs_any D D2 d d2 0 B2 ms w3 h.2.1.toR h.2.2.1 (fun m hm => by have := HSM.out.ents m hm; omega) (by have := HSM.out.len; omega))
    rw [← HQL.out]
    go_wp2_with fail
    refine HSA.out.mono ?_
    rintro e w4 ⟨rfl, hb4⟩
    have HSP : Hid (Calls Try.prog 60 #[.slice D q d] w4 fun e w' => e = .returned (.tuple #[]) ∧ Chg Z w4 w') := by
      have h := H3.out.2.1.below hb4
      rw [HQL.out] at h ⊢
      exact Lib.hid (spoil_any D d Z ms w4 h (by have := HSM.out.len; omega) (fun m hm => by have := HSM.out.ents m hm; omega))
    have HB4 := Lib.hid hb4
    clear hb4 HSA
    go_wp2_with fail
    refine HSP.out.mono ?_
    rintro e wz ⟨rfl, hc5⟩
    have HC5 : Hid (Chg Z w3 wz) := Lib.hid ((Chg.of_below HB4.out).trans hc5)
    clear hc5 HSP
    go_wp2_with fail
    go_ret
    refine ⟨rfl, H3.out.2.2.2 wz HC5.out, ?_⟩
    exact ((Chg.of_below HBX.out.1).trans (HK.out.1.mono HTW.out.1.lo)).trans ((H3.out.1.mono HTW.out.1.lo').trans (HC5.out.mono (fun b hb => by have := (HK.out.2.z b hb).1; have := HTW.out.2; have := HBX.out.1.size; omega)))
  by_cases k1 : dd = 1
  · have m0 : ((dd : Int) == 0) = false := by simp; omega
    have m1 : ((dd : Int) == 1) = true := by simp [k1]
    have HQ1 : Hid (S' = (S.handle M).1) := Lib.hid (by rw [HST.out, if_neg k0, if_pos k1])
    clear HST k0 k1
    have HRG : Hid (∀ W, Below w1.heap.size w1 W → W.rangeAt w.heap.size 1 [.int .u8 (mk : Nat), .int .i64 frm, .int .i64 dst, .int .i64 term, .int .i64 index, .int .i64 logTerm, .slice E n ec, .int .i64 commit, .bool mok] ∧ W.cell? ⟨w.heap.size, 7, none⟩ = some (.slice E n ec)) := Lib.hid (fun W hW => ⟨fun j v hj => by
      have hb := HBX.out.2.below hW HBX.out.2.lt
      rw [hb.cell, List.getElem?_toArray, Nat.add_comm 1 j, List.getElem?_cons_succ]
      have hjl := (List.getElem?_eq_some_iff.1 hj).1
      rw [← hj]
      exact List.getElem?_append_left (l₂ := [.string data]) hjl, (HBX.out.2.below hW HBX.out.2.lt).cell 7⟩)
    have HRE : Hid (Reads w1 w1.heap.size 2 E n (rowOf ecell ents)) := by
      have h1 := (HA.out.2.1.below HBX.out.1).reads ecell_len
      rw [HM.out] at h1
      dsimp only at h1
      rw [← HN.out] at h1
      exact Lib.hid h1
    have HB0 : Hid (Blk (w1.alloc (.cells #[.int .u8 0, .int .i64 0, .int .i64 0, .int .i64 0, .int .i64 0, .int .i64 0, .slice none 0 0, .int .i64 0, .bool false] 34)) w1.heap.size 34 #[.int .u8 0, .int .i64 0, .int .i64 0, .int .i64 0, .int .i64 0, .int .i64 0, .slice none 0 0, .int .i64 0, .bool false]) := Lib.hid (Blk.new w1 _ _)
    have hb1w : ¬ w1.heap.size = w.heap.size := by have := HBX.out.2.lt; omega
    have H2 : Hid (Below w1.heap.size w1 (w1.alloc (.cells #[.int .u8 (mk : Nat), .int .i64 frm, .int .i64 dst, .int .i64 term, .int .i64 index, .int .i64 logTerm, .slice E n ec, .int .i64 commit, .bool mok] 34)) ∧ Blk (w1.alloc (.cells #[.int .u8 (mk : Nat), .int .i64 frm, .int .i64 dst, .int .i64 term, .int .i64 index, .int .i64 logTerm, .slice E n ec, .int .i64 commit, .bool mok] 34)) w1.heap.size 34 #[.int .u8 (mk : Nat), .int .i64 frm, .int .i64 dst, .int .i64 term, .int .i64 index, .int .i64 logTerm, .slice E n ec, .int .i64 commit, .bool mok]) := Lib.hid ⟨(Below.refl _ _).alloc (Nat.le_refl _) _, Blk.new _ _ _⟩
    go_upto_region 9 with (first | (refine wpList_load_mid rfl 34 (.tmp 32) rfl w.heap.size 1 rfl [.int .u8 (mk : Nat), .int .i64 frm, .int .i64 dst, .int .i64 term, .int .i64 index, .int .i64 logTerm, .slice E n ec, .int .i64 commit, .bool mok] (.struct _) (HRG.out _ (Below.refl _ _)).1 Try.underlying34 rfl (by kernel_rfl) ?_) | (refine wpList_store_row rfl 34 (.tmp 9) (.tmp 33) rfl w1.heap.size #[.int .u8 (mk : Nat), .int .i64 frm, .int .i64 dst, .int .i64 term, .int .i64 index, .int .i64 logTerm, .slice E n ec, .int .i64 commit, .bool mok] rfl rfl 34 #[.int .u8 0, .int .i64 0, .int .i64 0, .int .i64 0, .int .i64 0, .int .i64 0, .slice none 0 0, .int .i64 0, .bool false] HB0.out (by kernel_rfl) rfl (by kernel_rfl) ?_; rw [World.setRow_alloc_new]) | fail)
    generalize w1.alloc (.cells #[.int .u8 (mk : Nat), .int .i64 frm, .int .i64 dst, .int .i64 term, .int .i64 index, .int .i64 logTerm, .slice E n ec, .int .i64 commit, .bool mok] 34) = w2 at *
    have y6 : w2.cell? ⟨w1.heap.size, 6, none⟩ = some (.slice E n ec) := H2.out.2.cell 6
    have yf : w2.frozen? ⟨w1.heap.size, 6, none⟩ = false := H2.out.2.frozen 6
    have y7 := (HRG.out w2 H2.out.1).2
    have H3 : Hid (Blk (w2.setCell ⟨w1.heap.size, 6, none⟩ (.slice none 0 0)) w1.heap.size 34 #[.int .u8 (mk : Nat), .int .i64 frm, .int .i64 dst, .int .i64 term, .int .i64 index, .int .i64 logTerm, .slice none 0 0, .int .i64 commit, .bool mok] ∧ Below w1.heap.size w1 (w2.setCell ⟨w1.heap.size, 6, none⟩ (.slice none 0 0))) := Lib.hid ⟨H2.out.2.set_ 6 _, Chg.below H2.out.1 (Chg.setCell (T := fun b => b = w1.heap.size) (Chg.refl _ _) (p := ⟨w1.heap.size, 6, none⟩) rfl (.slice none 0 0)) H2.out.1.size (fun b hb => by omega)⟩
    clear x0
    go_wp2_with (first | (at_builtin; generalize w2.setCell ⟨w1.heap.size, 6, none⟩ (.slice none 0 0) = w3 at *; refine wpList_app_ents rfl (.tmp 36) (.tmp 39) rfl w1.heap.size 0 n 0 ec w1.heap.size none E [] ents rfl (World.ownsRow_nil _ _ _ _) rfl (HRE.out.below H3.out.2) (by omega) H3.out.2.size ?_; intro A4 c4 w4 ho4 hg4 _; rw [Nat.zero_add, List.nil_append] at ho4; have H4 : Hid (w4.ownsRow w1.heap.size 39 2 (.slice A4 n c4) n (rowOf ecell ents) ∧ Blk w4 w1.heap.size 34 #[.int .u8 (mk : Nat), .int .i64 frm, .int .i64 dst, .int .i64 term, .int .i64 index, .int .i64 logTerm, .slice none 0 0, .int .i64 commit, .bool mok] ∧ Below w1.heap.size w1 w4) := Lib.hid ⟨ho4, H3.out.1.grown hg4 (by simp [Value.ownBlock]), H3.out.2.grown hg4 H3.out.2.size (fun r hr => by cases hr)⟩; clear ho4 hg4; have z6 : w4.cell? ⟨w1.heap.size, 6, none⟩ = some (.slice none 0 0) := H4.out.2.1.cell 6; have zf : w4.frozen? ⟨w1.heap.size, 6, none⟩ = false := H4.out.2.1.frozen 6; have H5 : Hid (Blk (w4.setCell ⟨w1.heap.size, 6, none⟩ (.slice A4 n c4)) w1.heap.size 34 #[.int .u8 (mk : Nat), .int .i64 frm, .int .i64 dst, .int .i64 term, .int .i64 index, .int .i64 logTerm, .slice A4 n c4, .int .i64 commit, .bool mok] ∧ Below w1.heap.size w1 (w4.setCell ⟨w1.heap.size, 6, none⟩ (.slice A4 n c4)) ∧ (w4.setCell ⟨w1.heap.size, 6, none⟩ (.slice A4 n c4)).ownsRow w1.heap.size 39 2 (.slice A4 n c4) n (rowOf ecell ents)) := setcell_own H4.out.1 H4.out.2.1 H4.out.2.2 (#[.int .u8 (mk : Nat), .int .i64 frm, .int .i64 dst, .int .i64 term, .int .i64 index, .int .i64 logTerm, .slice A4 n c4, .int .i64 commit, .bool mok]) rfl) | (generalize w4.setCell ⟨w1.heap.size, 6, none⟩ (.slice A4 n c4) = w5 at *; refine wpList_load_row rfl 34 _ rfl w1.heap.size rfl 34 #[.int .u8 (mk : Nat), .int .i64 frm, .int .i64 dst, .int .i64 term, .int .i64 index, .int .i64 logTerm, .slice A4 n c4, .int .i64 commit, .bool mok] (0, 0) _ H5.out.1 Try.underlying34 rfl (by kernel_rfl) ?_) | fail)
    clear y6 yf y7 z6 zf H2 H3 H4
    have HRD5 : Hid (RdE w5 A4 M.ents ∧ (∀ a, A4 = some a → M.ents ≠ [] → a.block ≠ g) ∧ M.ents.length ≤ c4 ∧ (A4 = none → c4 = 0)) := by
      rw [HM.out]
      dsimp only
      obtain ⟨A', c', e1, e2, e3⟩ := own_form2 H5.out.2.2
      injection e1 with e4 e5 e6
      subst e4; subst e6
      refine Lib.hid ⟨.of_own ecell_len H5.out.2.2 HN.out, fun a ha _ he => ?_, by rw [← HN.out]; exact e2, e3⟩
      have h1 := (World.ownsRow.lt H5.out.2.2 _ (own_block H5.out.2.2 a ha)).1
      have h2 := HT1.out.p.lt
      omega
    have HT5 := Lib.hid (HT1.out.below H5.out.2.1)
    have HHA := Lib.hid (handle_any S M g A A4 c c4 w5 ⟨HT5.out.p, HT5.out.full.toOk⟩ HA.out.1 HRD5.out.1 HRD5.out.2.1 HRD5.out.2.2.1 HRD5.out.2.2.2)
    have HSM := Lib.hid (handle_small (m := M) HT1.out.full.toGood)
    obtain ⟨ms, hms⟩ : ∃ z, z = (S.handle M).2 := ⟨_, rfl⟩
    have HMS := Lib.hid hms
    rw [← hms] at HSM
    clear hms
    rw [← HQ1.out, ← HMS.out, HM.out] at HHA
    dsimp only [mcell] at HHA
    rw [← HN.out] at HHA
    refine HHA.out.mono ?_
    intro e w6 ho
    obtain ⟨hc2, A', c', Z, D, d, rfl, hk⟩ := HT5.out.out ho
    have HFU : Hid (S'.Full) := by rw [HQ1.out]; exact Lib.hid HT1.out.full.handle
    have HLT : Hid (∀ b, SvT g A b ∨ SvT gd Ad b → b < w.heap.size) := Lib.hid (fun b hb => hb.elim (fun h => HTW.out.1.p.ltS h) (fun h => HTW.out.1.q.ltT h))
    obtain ⟨N, hN⟩ : ∃ N : Nat → Prop, N = fun b => w1.heap.size < b ∧ b < w5.heap.size := ⟨_, rfl⟩
    have HNN : Hid (∀ b, N b ↔ w1.heap.size < b ∧ b < w5.heap.size) := Lib.hid (fun b => by rw [hN])
    clear hN
    have H6 : Hid (Blk w6 w1.heap.size 34 #[.int .u8 (mk : Nat), .int .i64 frm, .int .i64 dst, .int .i64 term, .int .i64 index, .int .i64 logTerm, .slice A4 n c4, .int .i64 commit, .bool mok] ∧ Ther w6 N A4 n) := Lib.hid (by
      have hb := H5.out.1.chg hc2 (fun h => by have := HLT.out _ (.inl h); have := HBX.out.1.size; omega)
      have ho := own_chg H5.out.2.2 hc2 (fun g' hg' h => by have := HLT.out _ (.inl h); have := HBX.out.1.size; have := (World.ownsRow.lt H5.out.2.2 g' hg').1; omega)
      refine ⟨hb, .of_own ho (fun a ha => (HNN.out _).2 ?_)⟩
      have h1 := own_block H5.out.2.2 a ha
      have h2 := World.ownsRow.lt H5.out.2.2 _ h1
      have h3 : a.block ≠ w1.heap.size := fun he => own_blk_ne H5.out.2.2 H5.out.1 (by decide) (h1.trans (congrArg some he))
      omega)
    have HK := Lib.hid (And.intro hc2 hk)
    clear ho hc2 hk
    obtain ⟨q, hq⟩ : ∃ z, z = ms.length := ⟨_, rfl⟩
    have HQL := Lib.hid hq
    rw [← hq]
    clear hq HHA
    go_wp2_with fail
    go_loopw [11] (fun s11 wr => ∃ k : Nat, s11 = .int .i64 (k : Nat) ∧ k ≤ n ∧ Chg N w6 wr ∧ Ther wr N A4 n) (fun s11 _ => n - (intOf s11).toNat)
    case atStart => exact ⟨0, rfl, by omega, Chg.refl _ _, H6.out.2⟩
    case round =>
      obtain ⟨k, rfl, hk, hcN, hth⟩ := hrel
      have HR := Lib.hid (And.intro hcN hth)
      clear hcN hth
      have y6 : wr.cell? ⟨w1.heap.size, 6, none⟩ = some (.slice A4 n c4) := (H6.out.1.chg HR.out.1 (fun h => by have := (HNN.out _).1 h; omega)).cell 6
      by_cases hlt : k < n
      · have d1 : decide ((k : Int) < (n : Int)) = true := decide_eq_true (by omega)
        have hkn : (k : Int) < (n : Int) := by omega
        have hk0 : (0 : Int) ≤ (k : Int) := by omega
        obtain ⟨g1, hg0, hg1, hth1⟩ := HR.out.2.at_ hlt
        subst hg0
        have HG := Lib.hid (And.intro hg1 hth1)
        clear hg1 hth1
        go_wp2_with (first | (refine wpList_store_mid rfl 39 (.tmp 56) (.tmp 55) rfl g1 (k * 2) #[.int .i64 96, .string ⟨#[]⟩] rfl rfl HG.out.2 (by kernel_rfl) (by kernel_rfl) ?_) | fail)
        go_roundw
        case rel => exact ⟨k + 1, by go_num, by omega, Chg.setCells HG.out.1 _ _ _ HR.out.1, HR.out.2.setCells _ _ _⟩
        case measure => simp [intOf]; omega
      · have d1 : decide ((k : Int) < (n : Int)) = false := decide_eq_false (by omega)
        have HKR : Hid (Mid w5 wr w6.heap.size g A gd Ad cd V P S S' A' c' Z D d ms) := Lib.hid (HK.out.2.chg HR.out.1 (fun b hb => ⟨((HNN.out b).1 hb).2, fun h => by have := HLT.out _ (.inl h); have := ((HNN.out b).1 hb).1; have := HBX.out.1.size; omega, fun h => by have := HLT.out _ (.inr h); have := ((HNN.out b).1 hb).1; have := HBX.out.1.size; omega⟩))
        have HRB : Hid (Blk wr w.heap.size 67 #[.int .u8 (dd : Nat), .int .u8 (mk : Nat), .int .i64 frm, .int .i64 dst, .int .i64 term, .int .i64 index, .int .i64 logTerm, .slice E n ec, .int .i64 commit, .bool mok, .string data]) := Lib.hid (((HBX.out.2.below H5.out.2.1 HBX.out.2.lt).chg HK.out.1 (fun h => by have := HLT.out _ (.inl h); omega)).chg HR.out.1 (fun h => by have := ((HNN.out _).1 h).1; have := HBX.out.2.lt; omega))
        have HRR : Hid (wr.rangeAt w.heap.size 1 [.int .u8 (mk : Nat), .int .i64 frm, .int .i64 dst, .int .i64 term, .int .i64 index, .int .i64 logTerm, .slice E n ec, .int .i64 commit, .bool mok]) := Lib.hid (fun j v hj => by
          rw [HRB.out.cell, List.getElem?_toArray, Nat.add_comm 1 j, List.getElem?_cons_succ]
          have hjl := (List.getElem?_eq_some_iff.1 hj).1
          rw [← hj]
          exact List.getElem?_append_left (l₂ := [.string data]) hjl)
        have HRE6 : Hid (RdE wr E M.ents) := Lib.hid ((((HA.out.2.1.below HBX.out.1).below H5.out.2.1).chg HK.out.1 (fun a ha hne h => by have := HA.out.2.2.1 a ha hne; have := HTW.out.1.lo _ h; omega)).chg HR.out.1 (fun a ha hne h => by have := HA.out.2.2.1 a ha hne; have := ((HNN.out _).1 h).1; have := HTW.out.2; have := HBX.out.1.size; omega))
        have HTR := Lib.hid (handle_r S M gd Ad E cd ec V P wr HKR.out.q HT1.out.rel HT1.out.full HA.out.1 HRE6.out (fun a ha hne he => by have := HA.out.2.2.1 a ha hne; have := HTW.out.1.lo' gd (.inl rfl); omega) HA.out.2.2.2.2.1 HA.out.2.2.2.2.2)
        rw [← HQ1.out, ← HMS.out, HM.out] at HTR
        dsimp only [mcell] at HTR
        rw [← HN.out] at HTR
        go_wp2_with (first | (refine wpList_load_mid rfl 34 (.tmp 59) rfl w.heap.size 1 rfl [.int .u8 (mk : Nat), .int .i64 frm, .int .i64 dst, .int .i64 term, .int .i64 index, .int .i64 logTerm, .slice E n ec, .int .i64 commit, .bool mok] (.struct _) HRR.out Try.underlying34 rfl (by kernel_rfl) ?_) | fail)
        refine HTR.out.mono ?_
        intro e w3 ho
        obtain ⟨hc3, hz3, B2, D2, d2, rfl, hm3, hfin⟩ := Mid.fin HT5.out (Nat.le_trans HTW.out.2 (Nat.le_trans HBX.out.1.size H5.out.2.1.size)) HFU.out HKR.out ho
        have H3 : Hid (Chg (SvT gd Ad) wr w3 ∧ MsZ w3 Z D q d ms ∧ MsR w3 B2 D2 q d2 ms ∧ ∀ wz, Chg Z w3 wz → ∃ A' c' Ad' cd' V' P', Two wz B g A' c' S' gd Ad' cd' V' P') := Lib.hid (by rw [HQL.out]; exact ⟨hc3, hz3, hm3, hfin⟩)
        clear ho hc3 hz3 hm3 hfin HTR
        have HSA : Hid (Calls Try.prog 58 #[.slice D q d, .slice D2 q d2] w3 fun e w' => e = .returned (.bool true) ∧ Below w3.heap.size w3 w') := by
          have h := H3.out
          rw [HQL.out] at h ⊢
          exact Lib.hid (sameMsgs_any D D2 d d2 0 B2 ms w3 h.2.1.toR h.2.2.1 (fun m hm => by have := HSM.out.ents m hm; omega) (by have := HSM.out.len; omega))
        rw [← HQL.out]
        go_wp2_with fail
        refine HSA.out.mono ?_
        rintro e w4 ⟨rfl, hb4⟩
        have HSP : Hid (Calls Try.prog 60 #[.slice D q d] w4 fun e w' => e = .returned (.tuple #[]) ∧ Chg Z w4 w') := by
          have h := H3.out.2.1.below hb4
          rw [HQL.out] at h ⊢
          exact Lib.hid (spoil_any D d Z ms w4 h (by have := HSM.out.len; omega) (fun m hm => by have := HSM.out.ents m hm; omega))
        have HB4 := Lib.hid hb4
        clear hb4 HSA
        go_wp2_with fail
        refine HSP.out.mono ?_
        rintro e wz ⟨rfl, hc5⟩
        have HC5 : Hid (Chg Z w3 wz) := Lib.hid ((Chg.of_below HB4.out).trans hc5)
        clear hc5 HSP
        go_wp2_with fail
        go_ret
        refine ⟨rfl, H3.out.2.2.2 wz HC5.out, ?_⟩
        exact ((Chg.of_below HBX.out.1).trans (((Chg.of_below H5.out.2.1 : Chg (fun _ => False) w1 w5).mono (fun _ h => h.elim)).trans ((HK.out.1.mono HTW.out.1.lo).trans (HR.out.1.mono (fun b hb => by have := ((HNN.out b).1 hb).1; have := HTW.out.2; have := HBX.out.1.size; omega))))).trans ((H3.out.1.mono HTW.out.1.lo').trans (HC5.out.mono (fun b hb => by have := (HKR.out.z b hb).1; have := HTW.out.2; have := HBX.out.1.size; have := H5.out.2.1.size; omega)))
  by_cases k2 : dd = 2
  · have m0 : ((dd : Int) == 0) = false := by simp; omega
    have m1 : ((dd : Int) == 1) = false := by simp; omega
    have m2 : ((dd : Int) == 2) = true := by simp [k2]
    have HQ1 : Hid (S' = (S.propose data).1) := Lib.hid (by rw [HST.out, if_neg k0, if_neg k1, if_pos k2])
    clear HST k0 k1 k2
    have x10 : w1.cell? ⟨w.heap.size, 10, none⟩ = some (.string data) := HBX.out.2.cell 10
    obtain ⟨pn, hpn⟩ : ∃ z, z = (S.propose data).2.1 := ⟨_, rfl⟩
    obtain ⟨pe, hpe⟩ : ∃ z, z = (S.propose data).2.2 := ⟨_, rfl⟩
    have HP1 := Lib.hid (propose_any S data g A c w1 HT1.out.p HT1.out.full.toOk)
    have HP2 := Lib.hid (fun W (h : RvM W gd S Ad cd V P) => propose_r S data gd Ad cd V P W h HT1.out.rel HT1.out.full.toGood)
    rw [← hpn, ← hpe, ← HQ1.out] at HP1 HP2
    clear hpn hpe
    go_wp2_with fail
    refine HP1.out.mono ?_
    rintro e w2 ⟨rfl, A', c', hm, hc, ht⟩
    have H2 := Lib.hid (And.intro hm (And.intro hc ht))
    have HX2 : Hid (Blk w2 w.heap.size 67 #[.int .u8 (dd : Nat), .int .u8 (mk : Nat), .int .i64 frm, .int .i64 dst, .int .i64 term, .int .i64 index, .int .i64 logTerm, .slice E n ec, .int .i64 commit, .bool mok, .string data] ∧ RvM w2 gd S Ad cd V P) := Lib.hid ⟨HBX.out.2.chg hc (fun h => by have := HTW.out.1.p.ltS h; omega), HT1.out.q.chg hc (fun b hb hb2 => HT1.out.dis b hb2 hb)⟩
    clear hm hc ht x0 x10
    have x10 : w2.cell? ⟨w.heap.size, 10, none⟩ = some (.string data) := HX2.out.1.cell 10
    go_wp2_with fail
    refine (HP2.out w2 HX2.out.2).mono ?_
    rintro e w3 ⟨rfl, ⟨A2, c2, hm, hc, ht⟩, hr⟩
    have H3 := Lib.hid (And.intro hm (And.intro hc (And.intro ht hr)))
    clear hm hc ht hr x10
    go_wp2_with fail
    go_ret
    have hgl : ∀ b, SvT g A b → b < w1.heap.size := fun b hb => HT1.out.p.ltS hb
    have hdl : ∀ b, SvT gd Ad b → b < w1.heap.size := fun b hb => HT1.out.q.ltT hb
    have hst := H2.out.2.1.size
    have hsb := HBX.out.1.size
    have hBw := HTW.out.2
    have hA' : ∀ b, SvT g A' b → SvT g A b ∨ w1.heap.size ≤ b := fun b hb => SvT.sub H2.out.2.2 hb
    have hA2 : ∀ b, SvT gd A2 b → SvT gd Ad b ∨ w2.heap.size ≤ b := fun b hb => SvT.sub H3.out.2.2.1 hb
    have hd : ∀ b, SvT g A' b → ¬ SvT gd Ad b := fun b h1 h2 => by
      rcases hA' b h1 with h3 | h3
      · exact HT1.out.dis b h3 h2
      · have := hdl b h2; omega
    refine ⟨ret_bool (by simp), ⟨A', c', A2, c2, V, P, H2.out.1.chg H3.out.2.1 hd, H3.out.1, H3.out.2.2.2, by rw [HQ1.out]; exact HT1.out.full.propose, fun b h1 h2 => ?_, fun b hb => ?_, fun b hb => ?_⟩, ?_⟩
    · rcases hA2 b h2 with h3 | h3
      · exact hd b h1 h3
      · have := H2.out.1.ltS h1; omega
    · rcases hA' b hb with h3 | h3
      · exact HTW.out.1.lo b h3
      · omega
    · rcases hA2 b hb with h3 | h3
      · exact HTW.out.1.lo' b h3
      · omega
    · exact ((Chg.of_below HBX.out.1).trans (H2.out.2.1.mono HTW.out.1.lo)).trans (H3.out.2.1.mono HTW.out.1.lo')
  · have m0 : ((dd : Int) == 0) = false := by simp; omega
    have m1 : ((dd : Int) == 1) = false := by simp; omega
    have m2 : ((dd : Int) == 2) = false := by simp; omega
    have HQ1 : Hid (S' = S) := Lib.hid (by rw [HST.out, if_neg k0, if_neg k1, if_neg k2])
    clear HST k0 k1 k2
    go_wp2_with fail
    go_ret
    exact ⟨rfl, ⟨A, c, Ad, cd, V, P, by rw [HQ1.out]; exact HT1.out⟩, .of_below HBX.out.1⟩

theorem bad_of {l : List Ac} (h : heavyB l = false) {k : Nat} {x : Ac} (hx : l[k]? = some x) : l.length ≤ 60 ∧ badA x = false := by
  unfold heavyB at h
  rw [Bool.or_eq_false_iff, decide_eq_false_iff_not] at h
  have hk := (List.getElem?_eq_some_iff.1 hx).1
  refine ⟨by omega, ?_⟩
  cases hb : badA x with
  | false => rfl
  | true => have := any_take_of (m := 60) hx (by omega) hb; rw [h.1] at this; cases this
theorem ents_of {x : Ac} (h : badA x = false) : x.m.ents.length ≤ 60 := by
  unfold badA bigB at h
  simp only [Bool.or_eq_false_iff, decide_eq_false_iff_not] at h
  omega
theorem Two.twin {w w2 w5 : World} {B g g2 c c2 gd cd : Nat} {A A2 Ad : Option Addr} {S S3 : Sv} {V : List Bool} {P : List (Nat × Nat)} (h : Two w B g A c S gd Ad cd V P) (hB : B ≤ w.heap.size) (hg : w.heap.size ≤ g2) (hA : ∀ a, A2 = some a → w.heap.size ≤ a.block) (hm : SvM w2 g2 S A2 c2) (hb : Below w.heap.size w w2) (k : KeepsM w2 g A S3 w5) : Two w5 B g2 A2 c2 S gd Ad cd V P := by
  obtain ⟨A3, c3, _, hc, _⟩ := k
  have h2 : ∀ b, SvT g2 A2 b → w.heap.size ≤ b := fun b hb => by
    rcases hb with rfl | ⟨a, ha, rfl⟩
    · exact hg
    · exact hA a ha
  exact ⟨hm.chg hc (fun b h3 h4 => by have := h2 b h3; have := h.p.ltS h4; omega), (h.q.below hb).chg hc (fun b h3 h4 => h.dis b h4 h3), h.rel, h.full, fun b h3 h4 => by have := h2 b h3; have := h.q.ltT h4; omega, fun b h3 => Nat.le_trans hB (h2 b h3), h.lo'⟩
theorem OutS.keeps {w w' : World} {g : Nat} {A : Option Addr} {S' : Sv} {ms : List Mg} {e : Ending} (o : OutS w g A S' ms e w') : ∃ D d, e = .returned (.slice D ms.length d) ∧ KeepsM w g A S' w' := by
  obtain ⟨A', c', B1, D, d, hm, hc, ht, _, _, he, _⟩ := o
  exact ⟨D, d, he, A', c', hm, hc, ht⟩
theorem setcell_row {w1 w4 : World} {b n c i : Nat} {ty : TypeId} {A : Option Addr} {xs : List Value} {cs : Array Value} (ho : w4.ownsRow b 39 2 (.slice A n c) n xs) (hb : Blk w4 b ty cs) (hty : 39 ≠ ty) (hw : Below b w1 w4) (ds : Array Value) (hd : cs.setIfInBounds i (.slice A n c) = ds) :
    Hid (Blk (w4.setCell ⟨b, i, none⟩ (.slice A n c)) b ty ds ∧ Below b w1 (w4.setCell ⟨b, i, none⟩ (.slice A n c)) ∧ (w4.setCell ⟨b, i, none⟩ (.slice A n c)).ownsRow b 39 2 (.slice A n c) n xs) := by
  have hc : Chg (fun g => g = b) w4 (w4.setCell ⟨b, i, none⟩ (.slice A n c)) := Chg.setCell (T := fun g => g = b) (Chg.refl _ _) (p := ⟨b, i, none⟩) rfl _
  have h6 := hb.set_ i (.slice A n c)
  rw [hd] at h6
  exact Lib.hid ⟨h6, Chg.below hw hc (Nat.le_of_lt hb.lt) (fun g hg => by omega), own_chg ho hc (fun g hg he => own_blk_ne ho hb hty (hg.trans (congrArg some he)))⟩
set_option maxRecDepth 100000 in
set_option maxHeartbeats 16000000 in
theorem steps_walk (id nodes tm vo : Int) (L : List Ent) (As Al : Option Addr) (cs cl : Nat) (l : List Ac) (W : World) (hin : EntsIn W As L cs) (hla : RdA W Al l) (hlen : l.length ≤ 9223372036854775807) (hok : ∀ x ∈ l, AcOk W x)
    (hid : -9223372036854775808 ≤ id ∧ id ≤ 9223372036854775807) (hnd : -9223372036854775808 ≤ nodes ∧ nodes ≤ 9223372036854775807) (htm : -9223372036854775808 ≤ tm ∧ tm ≤ 9223372036854775807) (hvo : -9223372036854775808 ≤ vo ∧ vo ≤ 9223372036854775807) :
    Calls Try.prog 6 #[.int .i64 id, .int .i64 nodes, .agg #[.int .i64 tm, .int .i64 vo, .slice As L.length cs], .slice Al l.length cl] W fun e w' => e = .returned (.bool true) ∧ Below W.heap.size W w' := by
  obtain ⟨ln, hln⟩ : ∃ z, z = L.length := ⟨_, rfl⟩
  obtain ⟨n, hn⟩ : ∃ z, z = l.length := ⟨_, rfl⟩
  have HA := Lib.hid (And.intro hin (And.intro hla (And.intro hlen hok)))
  have HL := Lib.hid (And.intro hln hn)
  have hln9 : ln ≤ 9223372036854775807 := by rw [hln]; exact Nat.le_trans hin.cap hin.max
  rw [← hn] at hlen
  have HBG := Lib.hid (fun w (hb : Below W.heap.size W w) => big_any As cs L w (hin.rd.below hb) (by rw [← hln]; exact hln9))
  have HHV := Lib.hid (fun w (hb : Below W.heap.size W w) => heavy_any Al cl l w (hla.below hb) (by rw [← hn]; exact hlen) (fun x hx => ⟨(hok x hx).d, (hok x hx).m, ⟨(hok x hx).e.rd.below hb, (hok x hx).e.cap, (hok x hx).e.max, (hok x hx).e.nil, (hok x hx).e.ok, fun a ha hne => Nat.lt_of_lt_of_le ((hok x hx).e.lt a ha hne) hb.size⟩, (hok x hx).t⟩))
  obtain ⟨bb, hbb⟩ : ∃ z, z = (decide (60 < L.length) || L.any fun x => decide (100 < x.data.size)) := ⟨_, rfl⟩
  obtain ⟨hv, hhv⟩ : ∃ z, z = heavyB l := ⟨_, rfl⟩
  have HBB := Lib.hid (And.intro hbb hhv)
  rw [← hbb] at HBG
  rw [← hhv] at HHV
  rw [← hln] at HBG ⊢
  rw [← hn] at HHV ⊢
  clear hbb hhv hln hn hin hla hok
  have HB0 : Hid (Below W.heap.size W (W.alloc (.cells #[.int .i64 tm, .int .i64 vo, .slice As ln cs] 29)) ∧ Blk (W.alloc (.cells #[.int .i64 tm, .int .i64 vo, .slice As ln cs] 29)) W.heap.size 29 #[.int .i64 tm, .int .i64 vo, .slice As ln cs]) := ⟨(Below.refl _ W).alloc (Nat.le_refl _) _, Blk.new _ _ _⟩
  go_enter Try.func6, Try.ntmps6
  go_wp2_with fail
  generalize W.alloc (.cells #[.int .i64 tm, .int .i64 vo, .slice As ln cs] 29) = w0 at *
  refine (awake_any w0).mono ?_
  rintro e w1 ⟨rfl, hb1⟩
  have H1 : Hid (Below W.heap.size W w1 ∧ Blk w1 W.heap.size 29 #[.int .i64 tm, .int .i64 vo, .slice As ln cs]) := Lib.hid ⟨HB0.out.1.trans (hb1.mono HB0.out.1.size), HB0.out.2.below hb1 HB0.out.2.lt⟩
  clear hb1 HB0
  have x2 : w1.cell? ⟨W.heap.size, 2, none⟩ = some (.slice As ln cs) := H1.out.2.cell 2
  go_wp2_with fail
  refine (HBG.out w1 H1.out.1).mono ?_
  rintro e w1' ⟨rfl, hw⟩
  rw [hw]
  clear hw w1'
  cases bb
  · go_wp2_with fail
    refine (HHV.out w1 H1.out.1).mono ?_
    rintro e w1' ⟨rfl, hw⟩
    rw [hw]
    clear hw w1' x2
    cases hv
    · have HSM : Hid (ln ≤ 60 ∧ n ≤ 60 ∧ ∀ (k : Nat) x, l[k]? = some x → x.m.ents.length ≤ 60) := by
        have h1 := HBB.out.1
        have h2 := HBB.out.2.symm
        have h3 : ¬ 60 < L.length := fun h => by rw [decide_eq_true h] at h1; cases h1
        have h4 : ¬ 60 < l.length := fun h => by unfold heavyB at h2; rw [decide_eq_true h, Bool.or_true] at h2; cases h2
        exact Lib.hid ⟨by rw [HL.out.1]; omega, by rw [HL.out.2]; omega, fun k x hx => ents_of (bad_of h2 hx).2⟩
      have hl60 : ln ≤ 60 := HSM.out.1
      clear HBG HHV
      have HBZ : Hid (Blk (w1.alloc (.cells #[.int .i64 0, .int .i64 0, .slice none 0 0] 29)) w1.heap.size 29 #[.int .i64 0, .int .i64 0, .slice none 0 0]) := Lib.hid (Blk.new w1 _ _)
      have H2 : Hid (Below w1.heap.size w1 (w1.alloc (.cells #[.int .i64 tm, .int .i64 vo, .slice As ln cs] 29)) ∧ Blk (w1.alloc (.cells #[.int .i64 tm, .int .i64 vo, .slice As ln cs] 29)) w1.heap.size 29 #[.int .i64 tm, .int .i64 vo, .slice As ln cs]) := Lib.hid ⟨(Below.refl _ _).alloc (Nat.le_refl _) _, Blk.new _ _ _⟩
      have hb1W : ¬ w1.heap.size = W.heap.size := by have := H1.out.2.lt; omega
      have HRE : Hid (Reads w1 w1.heap.size 2 As ln (rowOf ecell L)) := by
        have h1 := (HA.out.1.rd.below H1.out.1).reads ecell_len
        rw [← HL.out.1] at h1
        exact Lib.hid h1
      go_wp2_with (first | (refine wpList_load_row rfl 29 (.tmp 6) rfl W.heap.size rfl 29 #[.int .i64 tm, .int .i64 vo, .slice As ln cs] (0, 0) _ H1.out.2 Try.underlying29 rfl (by kernel_rfl) ?_) | (refine wpList_store_row rfl 29 (.tmp 9) (.tmp 26) rfl w1.heap.size #[.int .i64 tm, .int .i64 vo, .slice As ln cs] rfl rfl 29 #[.int .i64 0, .int .i64 0, .slice none 0 0] HBZ.out (by kernel_rfl) rfl (by kernel_rfl) ?_; rw [World.setRow_alloc_new]; generalize w1.alloc (.cells #[.int .i64 tm, .int .i64 vo, .slice As ln cs] 29) = w2 at *; have y2 : w2.cell? ⟨w1.heap.size, 2, none⟩ = some (.slice As ln cs) := H2.out.2.cell 2; have yf : w2.frozen? ⟨w1.heap.size, 2, none⟩ = false := H2.out.2.frozen 2; have z2 : w2.cell? ⟨W.heap.size, 2, none⟩ = some (.slice As ln cs) := (H1.out.2.below H2.out.1 H1.out.2.lt).cell 2) | (at_builtin; have H3 : Hid (Blk (w2.setCell ⟨w1.heap.size, 2, none⟩ (.slice none 0 0)) w1.heap.size 29 #[.int .i64 tm, .int .i64 vo, .slice none 0 0] ∧ Below w1.heap.size w1 (w2.setCell ⟨w1.heap.size, 2, none⟩ (.slice none 0 0))) := Lib.hid ⟨H2.out.2.set_ 2 _, Chg.below H2.out.1 (Chg.setCell (T := fun b => b = w1.heap.size) (Chg.refl _ _) (p := ⟨w1.heap.size, 2, none⟩) rfl (.slice none 0 0)) H2.out.1.size (fun b hb => by omega)⟩; generalize w2.setCell ⟨w1.heap.size, 2, none⟩ (.slice none 0 0) = w3 at *; refine wpList_app_ents rfl (.tmp 29) (.tmp 31) rfl w1.heap.size 0 ln 0 cs w1.heap.size none As [] L rfl (World.ownsRow_nil _ _ _ _) rfl (HRE.out.below H3.out.2) (by omega) H3.out.2.size ?_; intro A4 c4 w4 ho4 hg4 _; rw [Nat.zero_add, List.nil_append] at ho4; have H4 : Hid (w4.ownsRow w1.heap.size 39 2 (.slice A4 ln c4) ln (rowOf ecell L) ∧ Blk w4 w1.heap.size 29 #[.int .i64 tm, .int .i64 vo, .slice none 0 0] ∧ Below w1.heap.size w1 w4) := Lib.hid ⟨ho4, H3.out.1.grown hg4 (by simp [Value.ownBlock]), H3.out.2.grown hg4 H3.out.2.size (fun r hr => by cases hr)⟩; clear ho4 hg4; have q2 : w4.cell? ⟨w1.heap.size, 2, none⟩ = some (.slice none 0 0) := H4.out.2.1.cell 2; have qf : w4.frozen? ⟨w1.heap.size, 2, none⟩ = false := H4.out.2.1.frozen 2; have H5 := setcell_row (i := 2) H4.out.1 H4.out.2.1 (by decide) H4.out.2.2 #[.int .i64 tm, .int .i64 vo, .slice A4 ln c4] rfl) | (generalize w4.setCell ⟨w1.heap.size, 2, none⟩ (.slice A4 ln c4) = w5 at *; refine wpList_load_row rfl 29 (.tmp 9) rfl w1.heap.size rfl 29 #[.int .i64 tm, .int .i64 vo, .slice A4 ln c4] (0, 0) _ H5.out.1 Try.underlying29 rfl (by kernel_rfl) ?_) | fail)
      clear HBZ H2 y2 yf z2 H3 H4 q2 qf
      have HRD5 : Hid (RdE w5 A4 L ∧ (A4 = none → c4 = 0)) := by
        obtain ⟨A', c', e1, e2, e3⟩ := own_form2 H5.out.2.2
        injection e1 with e4 e5 e6
        subst e4; subst e6
        exact Lib.hid ⟨.of_own ecell_len H5.out.2.2 HL.out.1, e3⟩
      have HW5 : Hid (Below W.heap.size W w5) := Lib.hid (H1.out.1.trans (H5.out.2.1.mono H1.out.1.size))
      have HN1 := Lib.hid (new_any id nodes tm vo L A4 c4 w5 HRD5.out.1 (by rw [← HL.out.1]; exact hln9) HRD5.out.2)
      have HN2 := Lib.hid (fun w (hb : Below W.heap.size W w) => new_r id nodes tm vo L As cs w (HA.out.1.rd.below hb) (by rw [← HL.out.1]; exact hln9))
      rw [← HL.out.1] at HN1 HN2
      have HWR : Hid (∀ w, Below w5.heap.size w5 w → Below W.heap.size W w ∧ Blk w W.heap.size 29 #[.int .i64 tm, .int .i64 vo, .slice As ln cs]) := Lib.hid (fun w hb => ⟨HW5.out.trans (hb.mono HW5.out.size), (H1.out.2.below H5.out.2.1 H1.out.2.lt).below hb (Nat.lt_of_lt_of_le H1.out.2.lt H5.out.2.1.size)⟩)
      have HCS : Hid ((∃ code : Int, (code == 0) = false ∧ Calls Try.prog 8 #[.int .i64 id, .int .i64 nodes, .agg #[.int .i64 tm, .int .i64 vo, .slice A4 ln c4]] w5 (fun e w' => e = .returned (.tuple #[.pointer none, .int .i64 code]) ∧ Below w5.heap.size w5 w') ∧ ∀ w, Below W.heap.size W w → Calls Try.prog 27 #[.int .i64 id, .int .i64 nodes, .agg #[.int .i64 tm, .int .i64 vo, .slice As ln cs]] w (fun e w' => e = .returned (.tuple #[.pointer none, .int .i64 code]) ∧ Below w.heap.size w w')) ∨
          ((Sv.begin_ id.toNat nodes.toNat tm vo L).Full ∧ Calls Try.prog 8 #[.int .i64 id, .int .i64 nodes, .agg #[.int .i64 tm, .int .i64 vo, .slice A4 ln c4]] w5 (fun e w' => NewOk w5 id nodes tm vo L e w' ∧ Below w5.heap.size w5 w') ∧ ∀ w, Below W.heap.size W w → Calls Try.prog 27 #[.int .i64 id, .int .i64 nodes, .agg #[.int .i64 tm, .int .i64 vo, .slice As ln cs]] w (fun e w' => NewOkR w id nodes tm vo L e w' ∧ Below w.heap.size w w'))) := by
        by_cases h1 : nodes < 1 ∨ 7 < nodes ∨ id < 0 ∨ nodes ≤ id
        · refine Lib.hid (.inl ⟨1, rfl, HN1.out.mono (fun e w' hp => ?_), fun w hb => (HN2.out w hb).mono (fun e w' hp => ?_)⟩)
          · unfold NewPost at hp; rw [if_pos h1] at hp; exact hp
          · unfold NewPostR at hp; rw [if_pos h1] at hp; exact hp
        · by_cases h2 : mayB tm vo L nodes = false
          · refine Lib.hid (.inl ⟨3, rfl, HN1.out.mono (fun e w' hp => ?_), fun w hb => (HN2.out w hb).mono (fun e w' hp => ?_)⟩)
            · unfold NewPost at hp; rw [if_neg h1, if_pos h2] at hp; exact hp
            · unfold NewPostR at hp; rw [if_neg h1, if_pos h2] at hp; exact hp
          · refine Lib.hid (.inr ⟨begin_full h1 (by simpa using h2), HN1.out.mono (fun e w' hp => ?_), fun w hb => (HN2.out w hb).mono (fun e w' hp => ?_)⟩)
            · unfold NewPost at hp; rw [if_neg h1, if_neg h2] at hp; exact hp
            · unfold NewPostR at hp; rw [if_neg h1, if_neg h2] at hp; exact hp
      clear HN1 HN2
      rcases HCS.out with ⟨code, hcode, hN1, hN2⟩ | ⟨hfull, hN1, hN2⟩
      · have HNN := Lib.hid (And.intro hN1 hN2)
        clear hN1 hN2 HCS
        have hc2 : (code != 0) = true := by simpa using hcode
        refine HNN.out.1.mono ?_
        rintro e w6 ⟨rfl, hb6⟩
        have H6 := Lib.hid (HWR.out w6 hb6)
        clear hb6
        go_wp2_with (first | (refine wpList_load_row rfl 29 (.tmp 6) rfl W.heap.size rfl 29 #[.int .i64 tm, .int .i64 vo, .slice As ln cs] (0, 0) _ H6.out.2 Try.underlying29 rfl (by kernel_rfl) ?_) | fail)
        refine (HNN.out.2 w6 H6.out.1).mono ?_
        rintro e w7 ⟨rfl, hb7⟩
        have H7 : Hid (Below W.heap.size W w7) := Lib.hid (H6.out.1.trans (hb7.mono H6.out.1.size))
        clear hb7
        go_wp2_with fail
        go_ret
        exact ⟨ret_bool (by simp), H7.out⟩
      · have HNN := Lib.hid (And.intro hfull (And.intro hN1 hN2))
        clear hfull hN1 hN2 HCS
        refine HNN.out.2.1.mono ?_
        rintro e w6 ⟨⟨g, A, c, rfl, hg, hA, hm⟩, hb6⟩
        have H6 := Lib.hid (And.intro (HWR.out w6 hb6) (And.intro hb6 (And.intro hg (And.intro hA hm))))
        clear hg hA hm hb6
        go_wp2_with (first | (refine wpList_load_row rfl 29 (.tmp 6) rfl W.heap.size rfl 29 #[.int .i64 tm, .int .i64 vo, .slice As ln cs] (0, 0) _ H6.out.1.2 Try.underlying29 rfl (by kernel_rfl) ?_) | fail)
        refine (HNN.out.2.2 w6 H6.out.1.1).mono ?_
        rintro e w7 ⟨⟨gd, Ad, cd, rfl, hg, hA, hm⟩, hb7⟩
        have HTW : Hid (Two w7 W.heap.size g A c (Sv.begin_ id.toNat nodes.toNat tm vo L) gd Ad cd (List.replicate 7 false) (List.replicate 7 (0, 0)) ∧ (∀ b, SvT g A b ∨ SvT gd Ad b → w5.heap.size ≤ b)) := Lib.hid (by
          have h5 : W.heap.size ≤ w5.heap.size := HW5.out.size
          have h6 : w5.heap.size ≤ w6.heap.size := H6.out.2.1.size
          have k1 : ∀ b, SvT g A b → w5.heap.size ≤ b := fun b hb => by
            rcases hb with rfl | ⟨a, ha, rfl⟩
            · exact H6.out.2.2.1
            · exact H6.out.2.2.2.1 a ha
          have k2 : ∀ b, SvT gd Ad b → w6.heap.size ≤ b := fun b hb => by
            rcases hb with rfl | ⟨a, ha, rfl⟩
            · exact hg
            · exact hA a ha
          exact ⟨⟨H6.out.2.2.2.2.below hb7, hm, Rel.foll rfl, HNN.out.1, fun b h1 h2 => by have := H6.out.2.2.2.2.ltS h1; have := k2 b h2; omega, fun b h1 => Nat.le_trans h5 (k1 b h1), fun b h1 => by have := k2 b h1; omega⟩, fun b hb => hb.elim (fun h => k1 b h) (fun h => by have := k2 b h; omega)⟩)
        have H7 : Hid (Below w5.heap.size w5 w7) := Lib.hid (H6.out.2.1.trans (hb7.mono H6.out.2.1.size))
        clear hg hA hm hb7
        obtain ⟨N, hN⟩ : ∃ N : Nat → Prop, N = fun b => w1.heap.size < b ∧ b < w5.heap.size := ⟨_, rfl⟩
        have HNB : Hid (∀ b, N b ↔ w1.heap.size < b ∧ b < w5.heap.size) := Lib.hid (fun b => by rw [hN])
        clear hN
        have H8 : Hid (Blk w7 w1.heap.size 29 #[.int .i64 tm, .int .i64 vo, .slice A4 ln c4] ∧ Ther w7 N A4 ln) := Lib.hid (by
          have hb := H5.out.1.below H7.out H5.out.1.lt
          have ho := own_below H5.out.2.2 H7.out
          refine ⟨hb, .of_own ho (fun a ha => (HNB.out _).2 ?_)⟩
          have h1 := own_block H5.out.2.2 a ha
          have h2 := World.ownsRow.lt H5.out.2.2 _ h1
          have h3 : a.block ≠ w1.heap.size := fun he => own_blk_ne H5.out.2.2 H5.out.1 (by decide) (h1.trans (congrArg some he))
          omega)
        go_wp2_with fail
        go_loopw [14] (fun s14 wr => ∃ k : Nat, s14 = .int .i64 (k : Nat) ∧ k ≤ ln ∧ Chg N w7 wr ∧ Ther wr N A4 ln) (fun s14 _ => ln - (intOf s14).toNat)
        case atStart => exact ⟨0, rfl, by omega, Chg.refl _ _, H8.out.2⟩
        case round =>
          obtain ⟨k, rfl, hk, hcN, hth⟩ := hrel
          have HR := Lib.hid (And.intro hcN hth)
          clear hcN hth
          have y2 : wr.cell? ⟨w1.heap.size, 2, none⟩ = some (.slice A4 ln c4) := (H8.out.1.chg HR.out.1 (fun h => by have := (HNB.out _).1 h; omega)).cell 2
          by_cases hlt : k < ln
          · have d1 : decide ((k : Int) < (ln : Int)) = true := decide_eq_true (by omega)
            have hkn : (k : Int) < (ln : Int) := by omega
            have hk0 : (0 : Int) ≤ (k : Int) := by omega
            obtain ⟨g1, hg0, hg1, hth1⟩ := HR.out.2.at_ hlt
            subst hg0
            have HG := Lib.hid (And.intro hg1 hth1)
            clear hg1 hth1
            go_wp2_with (first | (refine wpList_store_mid rfl 39 (.tmp 73) (.tmp 72) rfl g1 (k * 2) #[.int .i64 95, .string ⟨#[]⟩] rfl rfl HG.out.2 (by kernel_rfl) (by kernel_rfl) ?_) | fail)
            go_roundw
            case rel => exact ⟨k + 1, by go_num, by omega, Chg.setCells HG.out.1 _ _ _ HR.out.1, HR.out.2.setCells _ _ _⟩
            case measure => simp [intOf]; omega
          · have d1 : decide ((k : Int) < (ln : Int)) = false := decide_eq_false (by omega)
            have H9 : Hid (Two wr W.heap.size g A c (Sv.begin_ id.toNat nodes.toNat tm vo L) gd Ad cd (List.replicate 7 false) (List.replicate 7 (0, 0)) ∧ Below W.heap.size W wr) := Lib.hid ⟨HTW.out.1.chg HR.out.1 (fun b hb hn => by have := HTW.out.2 b (.inl hb); have := (HNB.out b).1 hn; omega) (fun b hb hn => by have := HTW.out.2 b (.inr hb); have := (HNB.out b).1 hn; omega), Chg.below (HW5.out.trans (H7.out.mono HW5.out.size)) HR.out.1 (Nat.le_trans HW5.out.size H7.out.size) (fun b hb => by have := (HNB.out b).1 hb; have := H1.out.1.size; omega)⟩
            go_wp2_with fail
            go_loopw [10, 15] (fun s10 s15 wr => ∃ (g : Nat) (A : Option Addr) (c : Nat) (S : Sv) (Ad : Option Addr) (cd : Nat) (V : List Bool) (P : List (Nat × Nat)) (k : Nat), s10 = .pointer (some ⟨g, 0, none⟩) ∧ s15 = .int .i64 (k : Nat) ∧ k ≤ n ∧ Two wr W.heap.size g A c S gd Ad cd V P ∧ Below W.heap.size W wr) (fun _ s15 _ => n - (intOf s15).toNat)
            case atStart => exact ⟨g, A, c, _, Ad, cd, _, _, 0, rfl, rfl, by omega, H9.out⟩
            case round =>
              clear d1 hlt hk y2 HR
              obtain ⟨g, A, c, S, Ad, cd, V, P, k, rfl, rfl, hk, htw, hbw⟩ := hrel
              have HR := Lib.hid (And.intro htw hbw)
              clear htw hbw
              by_cases hlt : k < n
              · have d1 : decide ((k : Int) < (n : Int)) = true := decide_eq_true (by omega)
                have hkn : (k : Int) < (n : Int) := by omega
                have hk0 : (0 : Int) ≤ (k : Int) := by omega
                obtain ⟨x, hx⟩ : ∃ x, l[k]? = some x := ⟨_, List.getElem?_eq_getElem (by rw [← HL.out.2]; exact hlt)⟩
                obtain ⟨b, off, hAl, hbl, _⟩ := acts_at HA.out.2.1 hx
                subst hAl
                have HAT : Hid (∀ w, Below W.heap.size W w → w.rangeAt b (off + k * 11) (acell x)) := Lib.hid (fun w hb => by
                  obtain ⟨b', off', e1, _, h2⟩ := acts_at (HA.out.2.1.below hb) hx
                  injection e1 with e1
                  injection e1 with e2 e3
                  subst e2; subst e3
                  exact fun j v hj => h2 j v hj)
                have HX := Lib.hid (And.intro (HA.out.2.2.2 x (List.mem_of_getElem? hx)) (HSM.out.2.2 k x hx))
                clear hx
                have x0 : wr.cell? ⟨b, off + k * 11, none⟩ = some (.int .u8 (x.do_ : Nat)) := HAT.out wr HR.out.2 0 _ rfl
                obtain ⟨dd, hdd⟩ : ∃ z, z = x.do_ := ⟨_, rfl⟩
                rw [← hdd] at x0
                clear hdd
                by_cases k3 : dd = 3
                · have m3 : ((dd : Int) == 3) = true := by simp [k3]
                  clear k3
                  have hn0 : 0 < S.n := by have := HR.out.1.full.id; omega
                  go_wp2_with fail
                  refine (twin_any S g A c wr HR.out.1.p hn0 HR.out.1.full.len).mono ?_
                  rintro e w2 ⟨g2, A2, c2, rfl, hg2, hA2, hm2, hb2⟩
                  have H2 := Lib.hid (And.intro hg2 (And.intro hA2 (And.intro hm2 hb2)))
                  have HW2 : Hid (Below W.heap.size W w2) := Lib.hid (HR.out.2.trans (hb2.mono HR.out.2.size))
                  have hp2 := HR.out.1.p.below hb2
                  have HP2 := Lib.hid hp2
                  clear hg2 hA2 hm2 hb2 hp2 x0
                  go_wp2_with fail
                  refine (tick_any S g A c w2 HP2.out HR.out.1.full.toOk).mono ?_
                  rintro e w3 ⟨A3, c3, B3, D3, d3, hm3, hc3, ht3, _, _, rfl, _⟩
                  have H3 := Lib.hid (And.intro hm3 (And.intro hc3 ht3))
                  have HW3 : Hid (Below W.heap.size W w3) := Lib.hid (Chg.below HW2.out hc3 HW2.out.size (fun b hb => HR.out.1.lo b hb))
                  clear hm3 hc3 ht3
                  have HF3 := Lib.hid HR.out.1.full.tick
                  generalize S.tick.1 = S3 at *
                  generalize S.tick.2.length = q3 at *
                  have HRM : Hid (w3.rangeAt b (off + k * 11 + 1) (mcell x.E x.c x.m)) := Lib.hid (fun j v hj => by
                    have h := HAT.out w3 HW3.out (1 + j) v (by
                      unfold acell
                      rw [Nat.add_comm 1 j, List.getElem?_cons_succ]
                      rw [List.getElem?_append_left (List.getElem?_eq_some_iff.1 hj).1]
                      exact hj)
                    rw [← Nat.add_assoc] at h
                    exact h)
                  have HHA := Lib.hid (handle_any S3 x.m g A3 x.E c3 x.c w3 ⟨H3.out.1, HF3.out.toOk⟩ HX.out.1.m (HX.out.1.e.rd.below HW3.out) (fun a ha hne he => by have := HX.out.1.e.lt a ha hne; have := HR.out.1.lo g (.inl rfl); omega) HX.out.1.e.cap HX.out.1.e.nil)
                  go_wp2_with (first | (refine wpList_load_mid rfl 34 (.tmp 94) rfl b (off + k * 11 + 1) rfl (mcell x.E x.c x.m) (.struct _) HRM.out Try.underlying34 rfl (by kernel_rfl) ?_) | fail)
                  refine HHA.out.mono ?_
                  rintro e w4 ⟨A4', c4', B4, D4, d4, hm4, hc4, ht4, _, _, rfl, _⟩
                  have H4 := Lib.hid (And.intro hm4 (And.intro hc4 ht4))
                  have HW4 : Hid (Below W.heap.size W w4) := Lib.hid (Chg.below HW3.out hc4 HW3.out.size (fun b hb => by
                    rcases SvT.sub (a0 := w2.heap.size) H3.out.2.2 hb with h | h
                    · exact HR.out.1.lo b h
                    · exact Nat.le_trans HW2.out.size h))
                  clear hm4 hc4 ht4 HHA
                  have HF4 := Lib.hid (HF3.out.handle (m := x.m))
                  generalize (S3.handle x.m).1 = S4 at *
                  generalize (S3.handle x.m).2.length = q4 at *
                  go_wp2_with fail
                  refine (propose_any S4 _ g A4' c4' w4 H4.out.1 HF4.out.toOk).mono ?_
                  rintro e w5' ⟨rfl, hk5⟩
                  have HT5 : Hid (Two w5' W.heap.size g2 A2 c2 S gd Ad cd V P ∧ Below W.heap.size W w5') := Lib.hid (by
                    have hk := KeepsM.trans H3.out.2.1 H3.out.2.2 (KeepsM.trans H4.out.2.1 H4.out.2.2 hk5)
                    refine ⟨HR.out.1.twin HR.out.2.size H2.out.1 H2.out.2.1 H2.out.2.2.1 H2.out.2.2.2 hk, ?_⟩
                    obtain ⟨_, _, _, hc, _⟩ := hk
                    exact Chg.below HW2.out hc HW2.out.size (fun b hb => HR.out.1.lo b hb))
                  clear hk5 H2 H3 H4 HP2 HRM
                  generalize (S4.propose _).2.1 = q5 at *
                  generalize (S4.propose _).2.2 = q6 at *
                  go_wp2_with fail
                  refine (told_two S g2 gd A2 Ad c2 cd V P w5' HT5.out.1.p HT5.out.1.q HT5.out.1.full.toOk).mono ?_
                  rintro e w6' ⟨rfl, hb6⟩
                  have H6' : Hid (Two w6' W.heap.size g2 A2 c2 S gd Ad cd V P ∧ Below W.heap.size W w6') := Lib.hid ⟨HT5.out.1.below hb6, HT5.out.2.trans (hb6.mono HT5.out.2.size)⟩
                  clear hb6
                  go_wp2_with fail
                  go_roundw
                  case rel => exact ⟨g2, A2, c2, S, Ad, cd, V, P, k + 1, rfl, by go_num, by omega, H6'.out⟩
                  case measure => simp [intOf]; omega
                · have m3 : ((dd : Int) == 3) = false := by simp; omega
                  clear k3
                  have HON := Lib.hid (one_any S x g gd W.heap.size A Ad c cd V P wr HR.out.1 HR.out.2.size HX.out.1.m (HX.out.1.e.rd.below HR.out.2) HX.out.1.e.lt HX.out.1.e.cap HX.out.1.e.nil HX.out.2)
                  go_wp2_with (first | (refine wpList_load_mid rfl 67 (.tmp 104) rfl b (off + k * 11) rfl (acell x) (.struct _) (HAT.out wr HR.out.2) Try.underlying67 rfl (by kernel_rfl) ?_) | fail)
                  refine HON.out.mono ?_
                  rintro e w5' ⟨rfl, ⟨A', c', Ad', cd', V', P', ht⟩, hc⟩
                  have HT5 : Hid (Two w5' W.heap.size g A' c' (stepA S x) gd Ad' cd' V' P' ∧ Below W.heap.size W w5') := Lib.hid ⟨ht, Chg.below HR.out.2 hc HR.out.2.size (fun b hb => hb)⟩
                  clear ht hc x0 HON
                  generalize stepA S x = S' at *
                  go_wp2_with fail
                  refine (told_two S' g gd A' Ad' c' cd' V' P' w5' HT5.out.1.p HT5.out.1.q HT5.out.1.full.toOk).mono ?_
                  rintro e w6' ⟨rfl, hb6⟩
                  have H6' : Hid (Two w6' W.heap.size g A' c' S' gd Ad' cd' V' P' ∧ Below W.heap.size W w6') := Lib.hid ⟨HT5.out.1.below hb6, HT5.out.2.trans (hb6.mono HT5.out.2.size)⟩
                  clear hb6
                  go_wp2_with fail
                  go_roundw
                  case rel => exact ⟨g, A', c', S', Ad', cd', V', P', k + 1, rfl, by go_num, by omega, H6'.out⟩
                  case measure => simp [intOf]; omega
              · have d1 : decide ((k : Int) < (n : Int)) = false := decide_eq_false (by omega)
                go_wp2_with fail
                refine (told_two S g gd A Ad c cd V P wr HR.out.1.p HR.out.1.q HR.out.1.full.toOk).mono ?_
                rintro e w6' ⟨rfl, hb6⟩
                have H6' : Hid (Below W.heap.size W w6') := Lib.hid (HR.out.2.trans (hb6.mono HR.out.2.size))
                clear hb6
                go_wp2_with fail
                go_ret
                exact ⟨rfl, H6'.out⟩
    · clear HBG
      go_wp2_with fail
      go_ret
      exact ⟨rfl, H1.out.1⟩
  · clear HHV HBG x2
    go_wp2_with fail
    go_ret
    exact ⟨rfl, H1.out.1⟩
end Go.Proofs.Ytjodglepaeomiaa
